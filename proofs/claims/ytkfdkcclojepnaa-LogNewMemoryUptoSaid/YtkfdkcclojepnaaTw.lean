/- The disk's Read: the range over a function, and what follows. Conditions: none. -/
import Derived.Test.YtkfdkcclojepnaaTx
set_option linter.unusedVariables false
set_option linter.unusedSimpArgs false
namespace Go.Proofs.Ytkfdkcclojepnaa
open Go Go.RowKit Go.Shelf
attribute [local go_sem] Oper.semAt_some

set_option maxRecDepth 100000 in
theorem lit40 (l : List Value) (h : l.length = 40) : ∃ u0 u1 u2 u3 u4 u5 u6 u7 u8 u9 u10 u11 u12 u13 u14 u15 u16 u17 u18 u19 u20 u21 u22 u23 u24 u25 u26 u27 u28 u29 u30 u31 u32 u33 u34 u35 u36 u37 u38 u39, l = [u0, u1, u2, u3, u4, u5, u6, u7, u8, u9, u10, u11, u12, u13, u14, u15, u16, u17, u18, u19, u20, u21, u22, u23, u24, u25, u26, u27, u28, u29, u30, u31, u32, u33, u34, u35, u36, u37, u38, u39] := by
  rcases l with _ | ⟨u0, l⟩
  · simp at h
  rcases l with _ | ⟨u1, l⟩
  · simp at h
  rcases l with _ | ⟨u2, l⟩
  · simp at h
  rcases l with _ | ⟨u3, l⟩
  · simp at h
  rcases l with _ | ⟨u4, l⟩
  · simp at h
  rcases l with _ | ⟨u5, l⟩
  · simp at h
  rcases l with _ | ⟨u6, l⟩
  · simp at h
  rcases l with _ | ⟨u7, l⟩
  · simp at h
  rcases l with _ | ⟨u8, l⟩
  · simp at h
  rcases l with _ | ⟨u9, l⟩
  · simp at h
  rcases l with _ | ⟨u10, l⟩
  · simp at h
  rcases l with _ | ⟨u11, l⟩
  · simp at h
  rcases l with _ | ⟨u12, l⟩
  · simp at h
  rcases l with _ | ⟨u13, l⟩
  · simp at h
  rcases l with _ | ⟨u14, l⟩
  · simp at h
  rcases l with _ | ⟨u15, l⟩
  · simp at h
  rcases l with _ | ⟨u16, l⟩
  · simp at h
  rcases l with _ | ⟨u17, l⟩
  · simp at h
  rcases l with _ | ⟨u18, l⟩
  · simp at h
  rcases l with _ | ⟨u19, l⟩
  · simp at h
  rcases l with _ | ⟨u20, l⟩
  · simp at h
  rcases l with _ | ⟨u21, l⟩
  · simp at h
  rcases l with _ | ⟨u22, l⟩
  · simp at h
  rcases l with _ | ⟨u23, l⟩
  · simp at h
  rcases l with _ | ⟨u24, l⟩
  · simp at h
  rcases l with _ | ⟨u25, l⟩
  · simp at h
  rcases l with _ | ⟨u26, l⟩
  · simp at h
  rcases l with _ | ⟨u27, l⟩
  · simp at h
  rcases l with _ | ⟨u28, l⟩
  · simp at h
  rcases l with _ | ⟨u29, l⟩
  · simp at h
  rcases l with _ | ⟨u30, l⟩
  · simp at h
  rcases l with _ | ⟨u31, l⟩
  · simp at h
  rcases l with _ | ⟨u32, l⟩
  · simp at h
  rcases l with _ | ⟨u33, l⟩
  · simp at h
  rcases l with _ | ⟨u34, l⟩
  · simp at h
  rcases l with _ | ⟨u35, l⟩
  · simp at h
  rcases l with _ | ⟨u36, l⟩
  · simp at h
  rcases l with _ | ⟨u37, l⟩
  · simp at h
  rcases l with _ | ⟨u38, l⟩
  · simp at h
  rcases l with _ | ⟨u39, l⟩
  · simp at h
  have hl : l = [] := List.eq_nil_of_length_eq_zero (by simpa using h)
  subst hl
  exact ⟨_, _, _, _, _, _, _, _, _, _, _, _, _, _, _, _, _, _, _, _, _, _, _, _, _, _, _, _, _, _, _, _, _, _, _, _, _, _, _, _, rfl⟩

/-- A pending write whose bytes can be read. -/
def GoodP (w : World) (x : PD) : Prop := Rd w x.a (bvs x.bs) ∧ x.bs.length = 512
theorem sl_grown {W W' : World} {row : Option Nat} {e : TypeId} {s : Nat} {a : Option Addr} {l c : Nat} {xs : List Value} (h : Sl W e s a l c xs) (hg : W.grownBy W' row) (hr : ∀ r, row = some r → ∃ o : Obj, W.heap[r]? = some o ∧ o.isCells = false) : Sl W' e s a l c xs := by
  obtain ⟨h1, h2, h3⟩ := h
  refine ⟨h1, h2, ?_⟩
  rcases h3 with h3 | ⟨b, cur, ha, hb, hs, ht⟩
  · exact .inl h3
  · exact .inr ⟨b, cur, ha, (grownBy_keeps_cells hg hr hb rfl).trans hb, hs, ht⟩
theorem kp_others {W W' : World} (k : Kp no W W') : KeepsOthers W W' := ⟨k.size, fun j o hj _ => (k.block j (Array.getElem?_eq_some_iff.1 hj).1 id).trans hj⟩
theorem kp_boxed {W W' : World} {B : Nat} {t : TypeId} {v : Value} (k : Kp no W W') (h : Boxed W B t v) : Boxed W' B t v := (k.block B h.lt id).trans h
theorem below_boxed {W W' : World} {B n : Nat} {t : TypeId} {v : Value} (k : Below n W W') (h : Boxed W B t v) (hn : B < n) : Boxed W' B t v := (k.block B hn).trans h
theorem readL_none {i : Int} : ∀ (q : List (Int × List UInt8)) (b : List UInt8), (∀ p ∈ q, p.1 ≠ i) → readL i q b = b
  | [], _, _ => rfl
  | p :: r, b, h => by rw [readL, if_neg (h p (by simp))]; exact readL_none r b fun x hx => h x (by simp [hx])
theorem readL_app {i : Int} : ∀ (q r : List (Int × List UInt8)) (b : List UInt8), readL i (q ++ r) b = readL i r (readL i q b)
  | [], _, _ => rfl
  | p :: q, r, b => by rw [List.cons_append, readL, readL, readL_app q r]

theorem rd_below {w W : World} {a : Option Addr} {xs : List Value} (h : Rd w a xs) (k : Below w.heap.size w W) : Rd W a xs := fun i v hv => by
  obtain ⟨b, o, ha, hc⟩ := h i v hv
  exact ⟨b, o, ha, (k.cell (p := ⟨b, o + i, none⟩) (cell_lt hc)).trans hc⟩
/-- Behind the two stores of the results. -/
theorem ret_facts {w0 W w' : World} {e2 e3 c' : Nat} {a' : Option Addr} {bs : List UInt8} {u2 u3 : Value} (hb : Below w0.heap.size w0 W) (hl2 : w0.heap.size ≤ e2) (hl3 : w0.heap.size ≤ e3) (h23 : e2 ≠ e3) (kk : Kp no W w') (d2 : Boxed W e2 69 u2) (d3 : Boxed W e3 47 u3) (hsl : Sl w' T_uint8 1 a' 512 c' (bvs bs)) (hfr : Fresh W a') :
    Boxed ((w'.setCell ⟨e2, 0, none⟩ (.slice a' 512 c')).setCell ⟨e3, 0, none⟩ (.int .i64 0)) e2 69 (.slice a' 512 c') ∧ Boxed ((w'.setCell ⟨e2, 0, none⟩ (.slice a' 512 c')).setCell ⟨e3, 0, none⟩ (.int .i64 0)) e3 47 (.int .i64 0) ∧
    Sl ((w'.setCell ⟨e2, 0, none⟩ (.slice a' 512 c')).setCell ⟨e3, 0, none⟩ (.int .i64 0)) T_uint8 1 a' 512 c' (bvs bs) ∧ KeepsOthers W ((w'.setCell ⟨e2, 0, none⟩ (.slice a' 512 c')).setCell ⟨e3, 0, none⟩ (.int .i64 0)) ∧
    Below w0.heap.size w0 ((w'.setCell ⟨e2, 0, none⟩ (.slice a' 512 c')).setCell ⟨e3, 0, none⟩ (.int .i64 0)) ∧ Fresh w0 a' := by
  have g2 := kp_boxed kk d2
  have g3 := kp_boxed kk d3
  have l2 := d2.lt
  have l3 := d3.lt
  have sz := hb.size
  have hbw : Below w0.heap.size w0 w' := hb.trans (kk.below sz fun _ _ h => h)
  refine ⟨(g2.set _).other h23 _, (g3.other (Ne.symm h23) _).set _, ?_, ((kp_others kk).trans (KeepsOthers.setCell _ _ _)).trans (KeepsOthers.setCell _ _ _), (hbw.setCell (p := ⟨e2, 0, none⟩) hl2 _).setCell (p := ⟨e3, 0, none⟩) hl3 _, fun k hk => by have := hfr k hk; omega⟩
  refine (hsl.kp (Kp.setCell (a := ⟨e2, 0, none⟩)) fun k hk hh => ?_).kp (Kp.setCell (a := ⟨e3, 0, none⟩)) fun k hk hh => ?_
  · have := hfr k hk; dsimp only at hh; omega
  · have := hfr k hk; dsimp only at hh; omega

/-- What Read's end is to be. -/
def RdPost (w0 : World) (bs : List UInt8) : Ending → World → Prop := fun e W' => ∃ (a' : Option Addr) (c' : Nat), e = .returned (.tuple #[.slice a' 512 c', .int .i64 0]) ∧ Sl W' T_uint8 1 a' 512 c' (bvs bs) ∧ Below w0.heap.size w0 W' ∧ Fresh w0 a'

set_option maxRecDepth 1000000 in
set_option maxHeartbeats 8000000 in
theorem rd_rest {w0 w : World} {b e1 e2 e3 pc n iN ic : Nat} {pa ia : Option Addr} {Q : List PD} {img : List UInt8} {a : Act} {R : Ending → World → Prop} (hR : ∀ e W', RdPost w0 (readL (iN : Int) (Q.map PD.v) ((img.drop (iN * 512)).take 512)) e W' → R e W') (hsz : a.tmps.size = 40) (hdf : a.defers = []) (h0 : a.tmps.getD 0 undef = .pointer (some ⟨b, 0, none⟩)) (h3 : a.tmps.getD 3 undef = .pointer (some ⟨e1, 0, none⟩)) (h4 : a.tmps.getD 4 undef = .pointer (some ⟨e2, 0, none⟩)) (h5 : a.tmps.getD 5 undef = .pointer (some ⟨e3, 0, none⟩))
    (hb0 : Below w0.heap.size w0 w) (hl2 : w0.heap.size ≤ e2) (hl3 : w0.heap.size ≤ e3) (h23 : e2 ≠ e3) (bx1 : Boxed w e1 3 (.int .i64 (iN : Int))) (bx2 : Boxed w e2 69 (.slice none 0 0)) (bx3 : Boxed w e3 47 (.int .i64 0)) (hpd : w.cell? ⟨b, 1, none⟩ = some (.slice pa Q.length pc))
    (hI : (pa = none ∧ Q.length = 0 ∧ pc = 0) ∨ ∃ b', pa = some ⟨b', 0, none⟩ ∧ b' < w.heap.size ∧ ∀ j v, (fP Q)[j]? = some v → w.cell? ⟨b', j, none⟩ = some v) (hQ : ∀ x ∈ Q, GoodP w x) (hql : Q.length ≤ 1000000)
    (him : w.cell? ⟨b, 0, none⟩ = some (.slice ia (n * 512) ic)) (hn : n ≤ 8192) (hic : n * 512 ≤ ic) (hiN : iN < n) (hir : Rd w ia (bvs img)) (hil : img.length = n * 512) :
    rdC.wpIn Fence.wide 8 Try.prog (bodyPostM Fence.wide 8 Try.prog Try.f43 R) a w := by
  obtain ⟨⟨l⟩, df⟩ := a
  obtain ⟨u0, u1, u2, u3, u4, u5, u6, u7, u8, u9, u10, u11, u12, u13, u14, u15, u16, u17, u18, u19, u20, u21, u22, u23, u24, u25, u26, u27, u28, u29, u30, u31, u32, u33, u34, u35, u36, u37, u38, u39, rfl⟩ := lit40 l (by simpa using hsz)
  dsimp only at hdf
  subst hdf
  have h0' : u0 = .pointer (some ⟨b, 0, none⟩) := h0
  have h3' : u3 = .pointer (some ⟨e1, 0, none⟩) := h3
  have h4' : u4 = .pointer (some ⟨e2, 0, none⟩) := h4
  have h5' : u5 = .pointer (some ⟨e3, 0, none⟩) := h5
  subst h0' h3' h4' h5'
  clear h0 h3 h4 h5 hsz
  -- the pending writes, from the last to the first
  obtain ⟨xs, hxl, hxv, hxi⟩ : ∃ xs : List {x : Nat × PD // GoodP w x.2}, xs.length = Q.length ∧ (xs.map fun x => x.1.2) = Q.reverse ∧ ∀ k (h : k < xs.length), xs[k].1.1 = Q.length - 1 - k := by
    refine ⟨List.ofFn fun k : Fin Q.length => ⟨(Q.length - 1 - k.1, Q[Q.length - 1 - k.1]'(by omega)), hQ _ (List.getElem_mem _)⟩, by simp, ?_, fun k h => by simp⟩
    apply List.ext_getElem
    · simp
    · intro k h1 h2
      simp
  have hxp : ∀ k (h : k < xs.length), xs[k].1.2 = Q[Q.length - 1 - k]'(by omega) := fun k h => by
    have := congrArg (fun l => l[k]?) hxv
    simp only [List.getElem?_map, List.getElem?_eq_getElem h, Option.map_some] at this
    rw [List.getElem?_reverse (by omega), List.getElem?_eq_getElem (by omega)] at this
    exact Option.some.inj this
  generalize hbytes : readL (iN : Int) (Q.map PD.v) ((img.drop (iN * 512)).take 512) = bytes at *
  delta rdC
  simp only [sq2, codeOf, Try.f43, Option.getD]
  gi_wp2_with (refine ⟨trivial, ?_⟩; gi_at_call 82; refine (backward_in Fence.wide (8 - 1) trivial rfl _ _ _ _).mono ?_; rintro e w' ⟨rfl, rfl⟩)
  have kW : Kp no w (w.alloc (.cells #[.slice pa Q.length pc] 67)) := Kp.alloc w _
  have szW : (w.alloc (.cells #[.slice pa Q.length pc] 67)).heap.size = w.heap.size + 1 := by simp
  have bxB : Boxed (w.alloc (.cells #[.slice pa Q.length pc] 67)) w.heap.size 67 (.slice pa Q.length pc) := Boxed.new w 67 _
  obtain ⟨W0, hW0⟩ : ∃ W0, w.alloc (.cells #[.slice pa Q.length pc] 67) = W0 := ⟨_, rfl⟩
  rw [hW0] at kW szW bxB ⊢
  clear hW0
  have hb1 : Below w0.heap.size w0 W0 := hb0.trans (kW.below hb0.size fun _ _ h => h)
  have e1l := bx1.lt
  have e2l := bx2.lt
  have e3l := bx3.lt
  have bx1' := kp_boxed kW bx1
  have bx2' := kp_boxed kW bx2
  have bx3' := kp_boxed kW bx3
  have w0l := hb0.size
  refine wpIn_rangeFunc_ownH rfl (by decide) (gf := 94) (lb := #[.pointer (some ⟨w.heap.size, 0, none⟩)]) rfl trivial (enters_of Try.func94 (by kernel_rfl) rfl)
    (back_stops (α := {x : Nat × PD // GoodP w x.2}) (fun x => x.1.1) (fun x => x.1.2) Fence.wide (8 - 1) trivial rfl (by decide) w.heap.size W0.heap.size pa pc Q.length xs hxl (by omega) W0 (by omega) (Nat.le_refl _) bxB.cell ?hI) belowK_t (belowK_b (Nat.le_refl _)) (Below.refl _ _) (fun _ => rfl)
    (fun pre W => (∀ y ∈ pre, y.1.2.sec ≠ (iN : Int)) ∧ Below W0.heap.size W0 W)
    (fun c pre W => ((c = .ret ∧ ∃ pre' x, pre = pre' ++ [x] ∧ (∀ y ∈ pre', y.1.2.sec ≠ (iN : Int)) ∧ x.1.2.sec = (iN : Int) ∧ ∃ (a' : Option Addr) (c' : Nat), Boxed W e2 69 (.slice a' 512 c') ∧ Sl W T_uint8 1 a' 512 c' (bvs x.1.2.bs) ∧ Fresh w0 a' ∧ Boxed W e3 47 (.int .i64 0))) ∧ Below w0.heap.size w0 W)
    (OwnFrom.and (ownFrom_pure _ _) (ownFrom_below (Nat.le_refl _) (Nat.le_refl _)))
    (fun c => OwnFrom.and (fun s X Y row hs hg hr => ?hown) (ownFrom_below (Nat.le_refl _) (by omega)))
    ⟨fun y hy => absurd hy (by simp), Below.refl _ _⟩
    (fun x a' W => ∃ Bx, W0.heap.size ≤ Bx ∧ Blk W Bx #[.int .i64 x.1.2.sec, .slice x.1.2.a x.1.2.bs.length x.1.2.c] 121 ∧ a' = { tmps := #[.pointer (some ⟨b, 0, none⟩), u1, u2, .pointer (some ⟨e1, 0, none⟩), .pointer (some ⟨e2, 0, none⟩), .pointer (some ⟨e3, 0, none⟩), u6, .pointer (some ⟨Bx, 0, none⟩), u8, u9, u10, u11, u12, u13, u14, u15, u16, u17, u18, u19, u20, u21, .pointer (some ⟨b, 0, none⟩), .pointer (some ⟨b, 0, none⟩), .pointer (some ⟨b, 1, none⟩), .slice pa Q.length pc, .func (.func 94) #[] #[.pointer (some ⟨w.heap.size, 0, none⟩)], .int .i64 ((x.1.1 : Nat) : Int), pdAgg x.1.2, u29, u30, u31, u32, u33, u34, u35, u36, u37, u38, u39], defers := [] })
    (fun x a' _ X Y row hs hg hr => ?hax)
    ?assign ?body ?done ?stop
  case hI =>
    rcases hI with h | ⟨b', hpa, hlt, hc⟩
    · exact .inl h
    · refine .inr ⟨b', hpa, by omega, fun k hk => ⟨hxi k hk, ?_, ?_⟩⟩
      · rw [hxp k hk]
        refine kW.cell (hc _ _ ?_) id
        have := flatV_get PD.cs_len Q (Q.length - 1 - k) (by omega) 0 (by omega)
        rw [Nat.add_zero] at this
        unfold fP
        rw [this]
        rfl
      · rw [hxp k hk]
        refine kW.cell (hc _ _ ?_) id
        unfold fP
        rw [flatV_get PD.cs_len Q (Q.length - 1 - k) (by omega) 1 (by omega)]
        rfl
  case hown =>
    obtain ⟨hc, pre', x, hp, hpn, hxs, a', c', q1, q2, q3, q4⟩ := hs
    have hr' : ∀ r, row = some r → ∃ o : Obj, X.heap[r]? = some o ∧ o.isCells = false := fun r e => (hr r e).2
    exact ⟨hc, pre', x, hp, hpn, hxs, a', c', boxed_own e2 69 (fun (_ : Unit) => Value.slice a' 512 c') () X Y row q1 hg hr', sl_grown q2 hg hr', q3, boxed_own e3 47 (fun (_ : Unit) => Value.int .i64 0) () X Y row q4 hg hr'⟩
  case hax =>
    obtain ⟨Bx, q1, q2, q3⟩ := hs
    exact ⟨Bx, q1, (grownBy_keeps_cells hg (fun r e => (hr r e).2) q2 rfl).trans q2, q3⟩
  case assign =>
    rintro l pre x W K ⟨hp, hB⟩ hK
    simp only [pdAgg]
    gi_wp2
    exact hK _ _ ((KeepsOthers.alloc _ _).from _) ((Below.refl _ W).alloc hB.size _) ⟨hp, hB.alloc hB.size _⟩ ⟨W.heap.size, hB.size, World.alloc_heap_new W _, rfl⟩
  case body =>
    rintro l pre x a' W hl ⟨r, hr⟩ ⟨hp, hB⟩ ⟨Bx, hBx, bX, rfl⟩ hlt
    have cX0 : W.cell? ⟨Bx, 0, none⟩ = some (.int .i64 x.1.2.sec) := bX.cell 0
    have cX1 : W.cell? ⟨Bx, 1, none⟩ = some (.slice x.1.2.a x.1.2.bs.length x.1.2.c) := bX.cell 1
    have c1 := (below_boxed hB bx1' (by omega)).cell
    have d2 := below_boxed hB bx2' (by omega)
    have d3 := below_boxed hB bx3' (by omega)
    have hwW : Below w.heap.size w W := (kW.below (Nat.le_refl _) fun _ _ h => h).trans (hB.mono (by omega))
    by_cases hs : x.1.2.sec = (iN : Int)
    · have htest : (x.1.2.sec == (iN : Int)) = true := by simp [hs]
      have hgood := x.2
      have hclone : Calls Try.prog 55 #[.slice x.1.2.a x.1.2.bs.length x.1.2.c] W fun e w' => ∃ (a' : Option Addr) (c' : Nat), e = .returned (.slice a' 512 c') ∧ Sl w' T_uint8 1 a' 512 c' (bvs x.1.2.bs) ∧ Kp no W w' ∧ Fresh W a' := by
        refine (clone_c (rd_below hgood.1 hwW) rfl (fun h0 => ?_) (by rw [hgood.2]; omega) fun a' c' w' hsl kk hfr _ => ⟨a', c', ?_, ?_, kk, hfr⟩).2
        · rw [hgood.2]
          obtain ⟨_, _, he, _⟩ := hgood.1 0 (bv (x.1.2.bs[0]'(by rw [hgood.2]; omega))) (bvs_get _)
          rw [h0] at he
          cases he
        · rw [hgood.2]
        · rw [hgood.2] at hsl; exact hsl
      gi_wp2_with (refine ⟨trivial, ?_⟩; gi_at_call 55; refine (CallsIn.inRound l (callsIn_wide.2 hclone)).mono ?_; rintro e w' ⟨a', c', rfl, hsl, kk, hfr⟩; have g2 := (kp_boxed kk d2).cell; have g2f := (kp_boxed kk d2).frozen; have g3 := (kp_boxed kk d3).cell; have g3f := (kp_boxed kk d3).frozen)
      obtain ⟨q1, q2, q3, q4, q5, q6⟩ := ret_facts (hb1.trans (hB.mono (by omega))) hl2 hl3 h23 kk d2 d3 hsl hfr
      exact ⟨q4.from _, ⟨rfl, pre, x, rfl, hp, hs, a', c', q1, q3, q6, q2⟩, q5⟩
    · have htest : (x.1.2.sec == (iN : Int)) = false := by simp [hs]
      gi_wp2
      exact ⟨KeepsFrom.refl _ _, Below.refl _ _, fun y hy => (List.mem_append.1 hy).elim (hp y) (fun e => by rw [List.mem_singleton] at e; rw [e]; exact hs), hB⟩
  case done =>
    rintro D ys W hD hys ⟨hp, hB⟩ hK
    rw [hys] at hp
    clear hys
    have hwW : Below w.heap.size w W := (kW.below (Nat.le_refl _) fun _ _ h => h).trans (hB.mono (by omega))
    have c1 := (below_boxed hB bx1' (by omega)).cell
    have d2 := below_boxed hB bx2' (by omega)
    have d3 := below_boxed hB bx3' (by omega)
    have hsec : Calls Try.prog 83 #[.pointer (some ⟨b, 0, none⟩), .int .i64 (iN : Int)] W fun e w' => e = .returned (.slice (subA ia ic (iN * 512) 1) 512 (ic - iN * 512)) ∧ w' = W :=
      (sector_c (n := n) (i := iN) ((hwW.cell (p := ⟨b, 0, none⟩) (cell_lt him)).trans him) hn hic hiN ⟨rfl, rfl⟩).2
    have hsl0 : ((img.drop (iN * 512)).take 512).length = 512 := by simp; omega
    have hrd : Rd W (subA ia ic (iN * 512) 1) (bvs ((img.drop (iN * 512)).take 512)) := by rw [← bvs_take]; exact (rd_drop (rd_below hir hwW) (by omega)).take _
    have hclone : Calls Try.prog 55 #[.slice (subA ia ic (iN * 512) 1) 512 (ic - iN * 512)] W fun e w' => ∃ (a' : Option Addr) (c' : Nat), e = .returned (.slice a' 512 c') ∧ Sl w' T_uint8 1 a' 512 c' (bvs ((img.drop (iN * 512)).take 512)) ∧ Kp no W w' ∧ Fresh W a' := by
      refine (clone_c hrd hsl0 (fun h0 => ?_) (by omega) fun a' c' w' hsl kk hfr _ => ⟨a', c', rfl, hsl, kk, hfr⟩).2
      obtain ⟨_, _, he, _⟩ := hrd 0 (bv (((img.drop (iN * 512)).take 512)[0]'(by omega))) (bvs_get _)
      rw [h0] at he
      cases he
    have hbs : (img.drop (iN * 512)).take 512 = bytes := by
      rw [← hbytes, readL_none]
      intro p hp'
      obtain ⟨x, hx, rfl⟩ := List.mem_map.1 hp'
      have : x ∈ xs.map fun x => x.1.2 := by rw [hxv]; simpa using hx
      obtain ⟨y, hy, rfl⟩ := List.mem_map.1 this
      exact hp y hy
    rw [hbs] at hclone
    clear hrd
    gi_wp2_with (first | (refine ⟨trivial, ?_⟩; gi_at_call 83; refine (callsIn_wide.2 hsec).mono ?_; rintro e w' ⟨rfl, rfl⟩) | (refine ⟨trivial, ?_⟩; gi_at_call 55; refine (callsIn_wide.2 hclone).mono ?_; rintro e w' ⟨a', c', rfl, hsl, kk, hfr⟩; have g2 := (kp_boxed kk d2).cell; have g2f := (kp_boxed kk d2).frozen; have g3 := (kp_boxed kk d3).cell; have g3f := (kp_boxed kk d3).frozen))
    obtain ⟨q1, q2, q3, q4, q5, q6⟩ := ret_facts (hb1.trans (hB.mono (by omega))) hl2 hl3 h23 kk d2 d3 hsl hfr
    have hK2 := q4.same D _ hK rfl
    refine ⟨by simp, .inl ⟨_, _, rfl, run_takeDeferred hK2, ?_⟩⟩
    have hg := grownBy_putObj' ((w'.setCell ⟨e2, 0, none⟩ (.slice a' 512 c')).setCell ⟨e3, 0, none⟩ (.int .i64 0)) D (.deferred none)
    have hr : ∀ r, some D = some r → ∃ o : Obj, ((w'.setCell ⟨e2, 0, none⟩ (.slice a' 512 c')).setCell ⟨e3, 0, none⟩ (.int .i64 0)).heap[r]? = some o ∧ o.isCells = false := fun r e => by cases e; exact ⟨_, hK2, rfl⟩
    have hc2 := cell_kept q1.cell hg hr
    have hc3 := cell_kept q2.cell hg hr
    refine ⟨_, ?_, hR _ _ ⟨a', c', rfl, sl_grown q3 hg hr, q5.trans (belowK_b (w := w0) (Nat.le_refl _) _ D _ _ (by omega) hK2 rfl rfl), q6⟩⟩
    simp [results, Try.f43, go_sem, hc2, hc3]
  case stop =>
    rintro D c pre W hD ⟨k, hk, hpre⟩ ⟨⟨rfl, pre', x, hpx, hpn, hxs, a', c', q1, q2, q3, q4⟩, q5⟩ hK
    have hbs : x.1.2.bs = bytes := by
      have e1 : Q.reverse = (pre'.map fun x => x.1.2) ++ x.1.2 :: ((xs.drop k).map fun x => x.1.2) := by
        rw [← hxv]
        conv => lhs; rw [← List.take_append_drop k xs, ← hpre, hpx]
        simp
      have e2 : Q = (((xs.drop k).map fun x => x.1.2).reverse ++ [x.1.2]) ++ (pre'.map fun x => x.1.2).reverse := by
        have := congrArg List.reverse e1
        rw [List.reverse_reverse] at this
        rw [this]
        simp
      rw [← hbytes, e2, List.map_append, List.map_append, readL_app, readL_none, readL_app]
      · simp [readL, PD.v, hxs]
      · intro p hp'
        obtain ⟨y, hy, rfl⟩ := List.mem_map.1 hp'
        rw [List.mem_reverse] at hy
        obtain ⟨z, hz, rfl⟩ := List.mem_map.1 hy
        exact hpn z hz
    rw [hbs] at q2
    gi_wp2
    refine ⟨by simp, .inl ⟨_, _, rfl, run_takeDeferred hK, ?_⟩⟩
    have hg := grownBy_putObj' W D (.deferred none)
    have hr : ∀ r, some D = some r → ∃ o : Obj, W.heap[r]? = some o ∧ o.isCells = false := fun r e => by cases e; exact ⟨_, hK, rfl⟩
    have hc2 := cell_kept q1.cell hg hr
    have hc3 := cell_kept q4.cell hg hr
    refine ⟨_, ?_, hR _ _ ⟨a', c', rfl, sl_grown q2 hg hr, q5.trans (belowK_b (w := w0) (Nat.le_refl _) W D _ _ (by omega) hK rfl rfl), q3⟩⟩
    simp [results, Try.f43, go_sem, hc2, hc3]
end Go.Proofs.Ytkfdkcclojepnaa
