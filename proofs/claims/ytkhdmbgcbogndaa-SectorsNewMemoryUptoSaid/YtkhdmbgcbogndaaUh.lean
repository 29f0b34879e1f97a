/- One call on two disks. Conditions: none. -/
import Derived.Test.YtkhdmbgcbogndaaUg
set_option linter.unusedVariables false
set_option linter.unusedSimpArgs false
namespace Go.Proofs.Ytkhdmbgcbogndaa
open Go Go.RowKit

/-- What a call makes of the disk. -/
def Dv.callX (v : Dv) (o : OpV) : Dv :=
  if o.kind = 2 then (v.write o.i (fillN o.f (lenO o.len))).2
  else if o.kind = 3 then v.sync.2
  else if o.kind = 4 then (v.arm o.i o.keep o.torn o.off).2
  else if o.kind = 5 then (v.crash o.keep o.torn o.off).2
  else if o.kind = 6 then v.up
  else v
theorem Dv.callX_q (v : Dv) (o : OpV) : (v.callX o).q.length ≤ v.q.length + 1 := by
  unfold Dv.callX
  split
  · exact Dv.write_q _ _ _
  split
  · unfold Dv.sync
    split
    · exact Nat.le_succ _
    · split <;> simp [Dv.fall, Dv.synced]
  split
  · unfold Dv.arm
    split
    · exact Nat.le_succ _
    · split <;> exact Nat.le_succ _
  split
  · unfold Dv.crash
    split
    · exact Nat.le_succ _
    · simp [Dv.fall]
  split <;> exact Nat.le_succ _
theorem Kl.callX {v : Dv} (h : Kl v) {o : OpV} (ho : o.keep.length * 8 ≤ 140737488355328) : Kl (v.callX o) := by
  unfold Dv.callX
  split
  · exact h.write _ _
  split
  · unfold Dv.sync
    split
    · exact h
    · split
      · simp [Kl, Dv.fall]
      · exact h
  split
  · unfold Dv.arm
    split
    · exact h
    · split
      · exact h
      · exact ho
  split
  · unfold Dv.crash
    split
    · exact h
    · simp [Kl, Dv.fall]
  split <;> exact h

/-- What a call holds beside the disks. -/
structure PC (w : World) (ow : Nat → Nat) (p r : Nat) (o : OpV) (b1 b2 b4 : Nat) (X : List UInt8) (a3 a5 a7 : Option Addr) (c3 c5 c7 : Nat) : Prop where
  i : SlT w ow T_uint8 1 a3 X.length c3 (bvs X) 4
  m : SlT w ow T_uint8 1 a5 (X.length + 2) c5 (bvs (X ++ [90, 91])) 2
  l : SlT w ow T_uint64 1 a7 (o.keep.length + 1) c7 ((o.keep ++ [23130]).map u64v) 3
  x1 : Blk w b1 #[.pointer (some ⟨p, 0, none⟩), .pointer (some ⟨r, 0, none⟩)] T_quotalaw03_Both
  x2 : Blk w b2 o.cs.toArray T_quotalaw03_Op
  x4 : Blk w b4 #[.slice a7 o.keep.length c7, .int .i64 o.torn, .int .i64 o.off] T_api_Loss
  t1 : ow b1 = 1
  t2 : ow b2 = 1
  t4 : ow b4 = 1
  a : RdT w ow (fun x => x = 0) o.la (o.keep.map u64v)
section
variable {T : Nat → Prop} {w w' : World} {ow ow' : Nat → Nat} {p r b1 b2 b4 c3 c5 c7 : Nat} {o : OpV} {X : List UInt8} {a3 a5 a7 : Option Addr}
theorem PC.fr (h : PC w ow p r o b1 b2 b4 X a3 a5 a7 c3 c5 c7) (f : Fro T w ow w' ow') (hT : ∀ x, x ≤ 4 → T x) : PC w' ow' p r o b1 b2 b4 X a3 a5 a7 c3 c5 c7 := by
  have g1 := blk_fr h.x1 h.t1 f (hT 1 (by omega))
  have g2 := blk_fr h.x2 h.t2 f (hT 1 (by omega))
  have g4 := blk_fr h.x4 h.t4 f (hT 1 (by omega))
  exact ⟨h.i.fr f (hT 4 (by omega)), h.m.fr f (hT 2 (by omega)), h.l.fr f (hT 3 (by omega)), g1.1, g2.1, g4.1, g1.2, g2.2, g4.2, h.a.fr f fun u hu => by subst hu; exact hT 0 (by omega)⟩
theorem PC.kp0 (h : PC w ow p r o b1 b2 b4 X a3 a5 a7 c3 c5 c7) (k : Kp no w w') : PC w' ow p r o b1 b2 b4 X a3 a5 a7 c3 c5 c7 := h.fr (Fro.kp0 k) fun _ _ => trivial
end
/-- The class of worlds within a call: the boxes stand. -/
def PB (p r : Nat) (o : OpV) (b1 b2 b4 : Nat) (a7 : Option Addr) (c7 : Nat) (w : World) : Prop :=
  Blk w b1 #[.pointer (some ⟨p, 0, none⟩), .pointer (some ⟨r, 0, none⟩)] T_quotalaw03_Both ∧ Blk w b2 o.cs.toArray T_quotalaw03_Op ∧ Blk w b4 #[.slice a7 o.keep.length c7, .int .i64 o.torn, .int .i64 o.off] T_api_Loss
theorem PC.pb {w : World} {ow : Nat → Nat} {p r b1 b2 b4 c3 c5 c7 : Nat} {o : OpV} {X : List UInt8} {a3 a5 a7 : Option Addr} (h : PC w ow p r o b1 b2 b4 X a3 a5 a7 c3 c5 c7) : PB p r o b1 b2 b4 a7 c7 w := ⟨h.x1, h.x2, h.x4⟩
section
variable {w : World} {p r b1 b2 b4 c7 : Nat} {o : OpV} {a7 : Option Addr}
theorem PB.dp (h : PB p r o b1 b2 b4 a7 c7 w) : w.cell? ⟨b1, 0, none⟩ = some (.pointer (some ⟨p, 0, none⟩)) := c0 h.1 rfl
theorem PB.dr (h : PB p r o b1 b2 b4 a7 c7 w) : w.cell? (Addr.add ⟨b1, 0, none⟩ 1) = some (.pointer (some ⟨r, 0, none⟩)) := cN h.1 rfl
theorem PB.o2 (h : PB p r o b1 b2 b4 a7 c7 w) : w.cell? (Addr.add ⟨b2, 0, none⟩ 2) = some (.int .i64 o.i) := cN h.2.1 rfl
theorem PB.ol (h : PB p r o b1 b2 b4 a7 c7 w) : w.cell? (Addr.add ⟨b2, 0, none⟩ 5) = some (.slice o.la o.keep.length o.lc) ∧ w.cell? (Addr.add (Addr.add ⟨b2, 0, none⟩ 5) 1) = some (.int .i64 o.torn) ∧ w.cell? (Addr.add (Addr.add ⟨b2, 0, none⟩ 5) 2) = some (.int .i64 o.off) ∧ True :=
  ⟨cN h.2.1 rfl, cNM h.2.1 rfl, cNM h.2.1 rfl, trivial⟩
theorem PB.l (h : PB p r o b1 b2 b4 a7 c7 w) : w.cell? ⟨b4, 0, none⟩ = some (.slice a7 o.keep.length c7) ∧ w.cell? (Addr.add ⟨b4, 0, none⟩ 1) = some (.int .i64 o.torn) ∧ w.cell? (Addr.add ⟨b4, 0, none⟩ 2) = some (.int .i64 o.off) ∧ True :=
  ⟨c0 h.2.2 rfl, cN h.2.2 rfl, cN h.2.2 rfl, trivial⟩
end
/-- A write into a slice of bytes, all its places one value. -/
theorem SlT.copy_back {w : World} {ow : Nat → Nat} {a sa : Option Addr} {c sc u : Nat} {img bs : List UInt8} {l m : Nat} (h : SlT w ow T_uint8 1 a l c (bvs img) u) (hs : Rd w sa (bvs bs)) (hs0 : sa = none → bs = []) (hl : bs.length = m) (hml : m ≤ l) {K : Value → World → Prop}
    (hK : ∀ w', SlT w' ow T_uint8 1 a l c (bvs (ovr img 0 bs)) u → Fro (fun x => x ≠ u) w ow w' ow → K (.int .i64 (m : Int)) w') :
    RunF Try.prog (Builtin.copy_ #[T_s_uint8, T_s_uint8] T_int #[.slice a l c, .slice sa m sc]) w K := by
  subst hl
  have := copy_own (sa := sa) (dl := l) (dc := c) (sc := sc) (o := 0) h hs hs0 hml (by omega) fun w' hs' k' f' => hK w' hs' f'
  rw [subA_zero] at this
  exact this
theorem ovr_front (X Y : List UInt8) (h : X.length = Y.length) (m : List UInt8) : ovr (Y ++ m) 0 X = X ++ m := by
  unfold ovr
  rw [List.take_zero, List.nil_append, Nat.zero_add, h, List.drop_left]

set_option maxRecDepth 100000 in
theorem plays_c {w w0 : World} {ow : Nat → Nat} {t u p r : Nat} {v : Dv} {o : OpV} {R : Ending → World → Prop} (ht : 10 ≤ t) (hu : t + 10 ≤ u) (hD : DX w ow t p v) (hR : RX w ow u r v) (hO : Old w0 w ow) (ho : o.Ok w0) (hq : v.q.length ≤ 900000) (hk : Kl v)
    (hK : ∀ w' ow', DX w' ow' t p (v.callX o) → RX w' ow' u r (v.callX o) → Fro (fun x => Td t x ∧ Td u x ∧ x ≠ 2 ∧ x ≠ 3) w ow w' ow' → R (.returned (.bool true)) w') :
    GoC Try.prog F_law03_Both_plays #[.agg #[.pointer (some ⟨p, 0, none⟩), .pointer (some ⟨r, 0, none⟩)], .agg o.cs.toArray] w R := by
  refine S_law03_Both_plays ?_
  unfold W_law03_Both_plays
  have hoi := ho.i
  have hln := ho.l.ln
  have hln2 : o.keep.length * 8 ≤ 140737488355328 := by omega
  refine AlF.intro fun b1 w1 hb1e hb1 k1 s1 => AlF.intro fun b2 w2 hb2e hb2 k2 s2 => ⟨_, _, _, _, _, _, _, _, _, _, ⟨c0 hb2 rfl, cN hb2 rfl, cN hb2 rfl, cN hb2 rfl, cN hb2 rfl, cN hb2 rfl, cN hb2 rfl, cN hb2 rfl, trivial⟩, ?_⟩
  have k02 := k1.trans0 k2
  have f2 : Fro (fun _ => True) w ow w2 (ext ow w.heap.size 1) := Fro.of_kp0 1 k02
  have t12 : ext ow w.heap.size 1 b1 = 1 := ext_new (by omega)
  have t22 : ext ow w.heap.size 1 b2 = 1 := ext_new (by omega)
  have x12 := k2.blk hb1 id
  refine filled_c fun a3 w3 hs3 k3 fr3 => ⟨_, _, _, rfl, ?_⟩
  have hle := lenO_le o.len
  have f3 : Fro (fun _ => True) w2 (ext ow w.heap.size 1) w3 (ext (ext ow w.heap.size 1) w2.heap.size 4) := Fro.of_kp0 4 k3
  have f03 := f2.trans f3
  have i3 : SlT w3 (ext (ext ow w.heap.size 1) w2.heap.size 4) T_uint8 1 a3 (lenO o.len) (lenO o.len) (bvs (fillN o.f (lenO o.len))) 4 := SlT.new hs3 fr3 4
  obtain ⟨x13, t13⟩ := blk_fr x12 t12 f3 trivial
  obtain ⟨x23, t23⟩ := blk_fr hb2 t22 f3 trivial
  generalize ext (ext ow w.heap.size 1) w2.heap.size 4 = ow3 at *
  have hXl : (fillN o.f (lenO o.len)).length = lenO o.len := fillN_len _ _
  have hw : o.kind = 2 → v.callX o = (v.write o.i (fillN o.f (lenO o.len))).2 := fun h => by unfold Dv.callX; rw [if_pos h]
  generalize hXe : fillN o.f (lenO o.len) = X at *
  rw [← hXl] at i3 hle ⊢
  have hn3 : a3 = none → X.length = 0 := fun h0 => sl_some' i3.sl h0
  refine append_new er_u8 i3.sl.rd (by rw [bvs_len]; omega) hn3 bvs_one (by omega) (by omega) fun a4 c4 w4 hs4 k4 fr4 _ => ⟨_, _, _, rfl, ?_⟩
  refine AlF.intro fun b3 w5 hb3e hb3 k5 s5 => ?_
  have k35 := k4.trans0 k5
  refine append_own er_u8 (hs4.kp0 k5) (rd_cells (xs := bvs [90, 91]) hb3 rfl) rfl (fun h => by cases h) bvs_one (by omega) (by omega) fun a5 c5 w6 hs6 k6 hi6 _ _ => ⟨_, _, _, rfl, ?_⟩
  rw [← bvs_app] at hs6
  have sz3 := k4.size
  have sz5 := k5.size
  have k36 : Kp no w3 w6 := k35.trans k6 (fun _ _ h => h) fun j hj hh => by have := fr4 j hh; omega
  have fr5 : Fresh w3 a5 := fun j hj => by
    rcases hi6 j hj with hh | hh
    · exact fr4 j hh
    · omega
  have f6 : Fro (fun _ => True) w3 ow3 w6 (ext ow3 w3.heap.size 2) := Fro.of_kp0 2 k36
  have m6 : SlT w6 (ext ow3 w3.heap.size 2) T_uint8 1 a5 (X.length + 2) c5 (bvs (X ++ [90, 91])) 2 := SlT.new hs6 fr5 2
  obtain ⟨x16, t16⟩ := blk_fr x13 t13 f6 trivial
  obtain ⟨x26, t26⟩ := blk_fr x23 t23 f6 trivial
  have i6 := i3.fr f6 trivial
  have f06 := f03.trans f6
  generalize ext ow3 w3.heap.size 2 = ow6 at *
  have hO6 := hO.fr f06 trivial
  refine ⟨_, _, _, _, _, ⟨cN x26 rfl, cNM x26 rfl, cNM x26 rfl, trivial⟩, ?_⟩
  refine lent_c (hO6.rdT ho.l.rd).rd ho.l.nn hln fun a7 c7 w7 hs7 k7 fr7 => ⟨_, _, _, _, _, rfl, ?_⟩
  have f7 : Fro (fun _ => True) w6 ow6 w7 (ext ow6 w6.heap.size 3) := Fro.of_kp0 3 k7
  have l7 : SlT w7 (ext ow6 w6.heap.size 3) T_uint64 1 a7 (o.keep.length + 1) c7 ((o.keep ++ [23130]).map u64v) 3 := SlT.new hs7 fr7 3
  obtain ⟨x17, t17⟩ := blk_fr x16 t16 f7 trivial
  obtain ⟨x27, t27⟩ := blk_fr x26 t26 f7 trivial
  have i7 := i6.fr f7 trivial
  have m7 := m6.fr f7 trivial
  have f07 := f06.trans f7
  generalize ext ow6 w6.heap.size 3 = ow7 at *
  refine AlF.intro fun b4 w8 hb4e hb4 k8 s8 => StF.at rfl hb4 (by simp) fun w9 hb9 k9 s9 => StF.at (add1 b4 1) hb9 (by simp) fun w10 hb10 k10 s10 => StF.at (add1 b4 2) hb10 (by simp) fun w11 hb11 k11 s11 => ?_
  have k711 : Kp no w7 w11 := kp_blk k8 (by omega) ((k9.trans0 k10).trans0 k11)
  have f11 : Fro (fun _ => True) w7 ow7 w11 (ext ow7 w7.heap.size 1) := Fro.of_kp0 1 k711
  have t4 : ext ow7 w7.heap.size 1 b4 = 1 := ext_new (by omega)
  obtain ⟨x1, t1⟩ := blk_fr x17 t17 f11 trivial
  obtain ⟨x2, t2⟩ := blk_fr x27 t27 f11 trivial
  have i := i7.fr f11 trivial
  have m := m7.fr f11 trivial
  have l := l7.fr f11 trivial
  have f011 := f07.trans f11
  have hD11 := hD.fr f011 trivial trivial trivial trivial
  have hR11 := hR.fr f011 trivial trivial trivial trivial
  have hO11 := hO.fr f011 trivial
  generalize ext ow7 w7.heap.size 1 = ow11 at *
  have C : PC w11 ow11 p r o b1 b2 b4 X a3 a5 a7 X.length c5 c7 := ⟨i, m, l, x1, x2, hb11, t1, t2, t4, hO11.rdT ho.l.rd⟩
  clear i m l x1 x2 hb11 t1 t2 t4 i7 m7 l7 x17 x27 t17 t27 i6 m6 x16 x26 t16 t26 i3 x13 x23 t13 t23 x12
  have tdt : ∀ x, x ≤ 4 → Td t x := fun x hx => ⟨by omega, by omega, by omega⟩
  have tdu : ∀ x, x ≤ 4 → Td u x := fun x hx => ⟨by omega, by omega, by omega⟩
  -- what the program's call is handed
  have hlent : ∀ {w' ow'}, PC w' ow' p r o b1 b2 b4 X a3 a5 a7 X.length c5 c7 → Ls w' ow' t a7 o.keep := fun {w' ow'} C' => ⟨fun i v hv => by
      have hi : i < o.keep.length := by have := (List.getElem?_eq_some_iff.1 hv).1; simpa using this
      obtain ⟨b, oo, h1, h2, h3⟩ := C'.l.rdT i v (by rw [List.map_append, List.getElem?_append_left (by simpa using hi)]; exact hv)
      exact ⟨b, oo, h1, h2, by rw [h3]; exact tdt 3 (by omega)⟩, ho.l.lt, hln2, fun h0 => by have := sl_some' C'.l.sl h0; omega⟩
  have hown : ∀ {w' ow'}, PC w' ow' p r o b1 b2 b4 X a3 a5 a7 X.length c5 c7 → Ls w' ow' u o.la o.keep := fun {w' ow'} C' => ⟨C'.a.mono fun x hx => by subst hx; exact tdu 0 (by omega), ho.l.lt, hln2, ho.l.nn⟩
  have hroom : ∀ {w' ow'}, PC w' ow' p r o b1 b2 b4 X a3 a5 a7 X.length c5 c7 → RdT w' ow' (fun x => x = 2) a5 (bvs X) := fun {w' ow'} C' => fun i v hv => by
    have hi : i < X.length := by have := (List.getElem?_eq_some_iff.1 hv).1; rwa [bvs_len] at this
    exact C'.m.rdT i v (by rw [bvs_app, List.getElem?_append_left (by rw [bvs_len]; exact hi)]; exact hv)
  have nroom : ∀ {w' ow'}, PC w' ow' p r o b1 b2 b4 X a3 a5 a7 X.length c5 c7 → a5 = none → X.length = 0 := fun {w' ow'} C' h0 => by have := sl_some' C'.m.sl h0; omega
  refine ⟨fun s w' => s = (true, ()) ∧ ∃ ow', DX w' ow' t p (v.callX o) ∧ RX w' ow' u r (v.callX o) ∧ PC w' ow' p r o b1 b2 b4 X a3 a5 a7 X.length c5 c7 ∧ Fro (fun x => Td t x ∧ Td u x ∧ x ≠ 2 ∧ x ≠ 3) w11 ow11 w' ow', ?_, ?_⟩
  · -- the calls
    have kd : Kp no w11 w11.drew := Kp.drew w11 1
    have fd : Fro (fun _ => True) w11 ow11 w11.drew ow11 := Fro.kp0 kd
    have Cd := C.kp0 kd
    have hDd := hD11.kp0 kd
    have hRd := hR11.kp0 kd
    have other : ∀ V, v.callX o = V → ∀ {s w' ow'}, s = (true, ()) → DX w' ow' t p V → RX w' ow' u r V → PC w' ow' p r o b1 b2 b4 X a3 a5 a7 X.length c5 c7 → Fro (fun x => Td t x ∧ Td u x ∧ x ≠ 2 ∧ x ≠ 3) w11 ow11 w' ow' → s = (true, ()) ∧ ∃ ow', DX w' ow' t p (v.callX o) ∧ RX w' ow' u r (v.callX o) ∧ PC w' ow' p r o b1 b2 b4 X a3 a5 a7 X.length c5 c7 ∧ Fro (fun x => Td t x ∧ Td u x ∧ x ≠ 2 ∧ x ≠ 3) w11 ow11 w' ow' :=
      fun V e s w' ow' hs h1 h2 h3 h4 => ⟨hs, ow', by rw [e]; exact h1, by rw [e]; exact h2, h3, h4⟩
    -- a call on the one, then on the other
    have two : ∀ V, v.callX o = V → ∀ {w12 ow12 w13 ow13 s}, s = (true, ()) → Fro (Td t) w11.drew ow11 w12 ow12 → DX w12 ow12 t p V → Fro (Td u) w12 ow12 w13 ow13 → RX w13 ow13 u r V → PB p r o b1 b2 b4 a7 c7 w13 ∧ (s = (true, ()) ∧ ∃ ow', DX w13 ow' t p (v.callX o) ∧ RX w13 ow' u r (v.callX o) ∧ PC w13 ow' p r o b1 b2 b4 X a3 a5 a7 X.length c5 c7 ∧ Fro (fun x => Td t x ∧ Td u x ∧ x ≠ 2 ∧ x ≠ 3) w11 ow11 w13 ow') :=
      fun V e w12 ow12 w13 ow13 s hs fA hA fB hB => by
        have C13 := (Cd.fr fA tdt).fr fB tdu
        exact ⟨C13.pb, other V e hs (hA.fr fB ⟨by omega, by omega, by omega⟩ ⟨by omega, by omega, by omega⟩ ⟨by omega, by omega, by omega⟩ ⟨by omega, by omega, by omega⟩) hB C13 (((fd.mono fun _ _ => trivial).trans (fA.mono fun x hx => hx.1)).trans (fB.mono fun x hx => hx.2.1))⟩
    have ut0 : Td t u := ⟨by omega, by omega, by omega⟩
    have ut1 : Td t (u + 1) := ⟨by omega, by omega, by omega⟩
    have ut2 : Td t (u + 2) := ⟨by omega, by omega, by omega⟩
    have ut3 : Td t (u + 3) := ⟨by omega, by omega, by omega⟩
    refine ⟨o.kind, c0 C.x2 rfl, cond_eq (fun hk1 => ?_) (fun hk1 => cond_eq (fun hk2 => ?_) (fun hk2 => cond_eq (fun hk3 => ?_) (fun hk3 => cond_eq (fun hk4 => ?_) (fun hk4 => cond_eq (fun hk5 => ?_) (fun hk5 => cond_eq (fun hk6 => ?_) (fun hk6 => cond_eq (fun hk8 => ?_) (fun hk8 => cond_eq (fun hk9 => ?_) (fun hk9 => ?_))))))))⟩
    · have e : v.callX o = v := by unfold Dv.callX; rw [if_neg (by omega), if_neg (by omega), if_neg (by omega), if_neg (by omega), if_neg (by omega)]
      refine ⟨_, C.pb.dp, _, C.pb.o2, readX_c hD11 (by omega) fun a8 l8 c8 w12 k12 hs12 fr12 => ⟨_, _, _, _, rfl, ?_⟩⟩
      have C12 := C.kp0 k12
      refine ⟨_, C12.pb.dr, _, C12.pb.o2, rread_c (hR11.kp0 k12) (by omega) fun a9 l9 c9 w13 k13 hs13 fr13 => ⟨_, _, _, _, rfl, num_c ⟨_, rfl, cond_t (by simp) ?_⟩⟩⟩
      have e8 := hs12.len
      have e9 := hs13.len
      rw [bvs_len] at e8 e9
      have k113 := k12.trans0 k13
      exact same_c (hs12.rd.kp0 k13) e8 (fun h0 => sl_some' hs12 h0) hs13.rd e9 (fun h0 => sl_some' hs13 h0) ⟨_, rfl, other v e (by simp) (hD11.kp0 k113) (hR11.kp0 k113) (C.kp0 k113) ((Fro.kp0 k113).mono fun _ _ => trivial)⟩
    · refine ⟨PB p r o b1 b2 b4 a7 c7, Cd.pb, _, fun w' h => h.dp, _, fun w' h => h.o2, ⟨by omega, by have := C.m.sl.2.1; omega⟩, trivial, _, fun w' h => h.dr, _, fun w' h => h.o2, ?_⟩
      rw [subA_zero, Int.toNat_natCast]
      refine write_l (bs := X) hDd ⟨(hroom Cd).mono fun x hx => by subst hx; exact tdt 2 (by omega), by omega, nroom Cd⟩ rfl (by omega) hk fun w12 ow12 hD12 f12 => ⟨_, rfl, ?_⟩
      have C12 := Cd.fr f12 tdt
      refine ⟨C12.pb, num_c ⟨_, rfl, C12.pb, rwrite_c (bs := X) (hRd.fr f12 ut0 ut1 ut2 ut3) (C12.i.bs ⟨by omega, by omega, by omega⟩ (by omega)) rfl (by omega) hk fun w13 ow13 hR13 f13 => ⟨_, rfl, two _ (hw hk2) (by simp) f12 hD12 f13 hR13⟩⟩⟩
    · have e : v.callX o = v.sync.2 := by unfold Dv.callX; rw [if_neg (by omega), if_pos hk3]
      refine ⟨PB p r o b1 b2 b4 a7 c7, Cd.pb, _, fun w' h => h.dp, _, fun w' h => h.dr, sync_c hDd (by omega) hk fun w12 ow12 hD12 f12 => ⟨_, rfl, ?_⟩⟩
      have C12 := Cd.fr f12 tdt
      exact ⟨C12.pb, num_c ⟨_, rfl, C12.pb, rsync_c (hRd.fr f12 ut0 ut1 ut2 ut3) (by omega) hk fun w13 ow13 hR13 f13 => ⟨_, rfl, two _ e (by simp) f12 hD12 f13 hR13⟩⟩⟩
    · have e : v.callX o = (v.arm o.i o.keep o.torn o.off).2 := by unfold Dv.callX; rw [if_neg (by omega), if_neg (by omega), if_pos hk4]
      refine ⟨PB p r o b1 b2 b4 a7 c7, Cd.pb, _, fun w' h => h.dp, _, fun w' h => h.o2, _, _, _, _, _, fun w' h => h.l, _, fun w' h => h.dr, _, fun w' h => h.o2, _, _, _, _, _, fun w' h => h.ol, arm_c hDd (hlent Cd) (by omega) fun w12 ow12 hD12 f12 => ⟨_, rfl, ?_⟩⟩
      have C12 := Cd.fr f12 tdt
      exact ⟨C12.pb, num_c ⟨_, rfl, C12.pb, rarm_c (hRd.fr f12 ut0 ut1 ut2 ut3) (hown C12) (by omega) fun w13 ow13 hR13 f13 => ⟨_, rfl, two _ e (by simp) f12 hD12 f13 hR13⟩⟩⟩
    · have e : v.callX o = (v.crash o.keep o.torn o.off).2 := by unfold Dv.callX; rw [if_neg (by omega), if_neg (by omega), if_neg (by omega), if_pos hk5]
      refine ⟨PB p r o b1 b2 b4 a7 c7, Cd.pb, _, fun w' h => h.dp, _, _, _, _, _, fun w' h => h.l, _, fun w' h => h.dr, _, _, _, _, _, fun w' h => h.ol, crash_c hDd (hlent Cd) (by omega) fun w12 ow12 hD12 f12 => ⟨_, rfl, ?_⟩⟩
      have C12 := Cd.fr f12 tdt
      exact ⟨C12.pb, num_c ⟨_, rfl, C12.pb, rcrash_c (hRd.fr f12 ut0 ut1 ut2 ut3) (hown C12) (by omega) fun w13 ow13 hR13 f13 => ⟨_, rfl, two _ e (by simp) f12 hD12 f13 hR13⟩⟩⟩
    · have e : v.callX o = v.up := by unfold Dv.callX; rw [if_neg (by omega), if_neg (by omega), if_neg (by omega), if_neg (by omega), if_pos hk6]
      refine ⟨PB p r o b1 b2 b4 a7 c7, Cd.pb, _, fun w' h => h.dp, _, fun w' h => h.dr, up_c hDd fun w12 ow12 hD12 f12 => ⟨_, rfl, ?_⟩⟩
      have C12 := Cd.fr f12 tdt
      exact ⟨C12.pb, num_c ⟨_, rfl, C12.pb, rup_c (hRd.fr f12 ut0 ut1 ut2 ut3) fun w13 ow13 hR13 f13 => ⟨_, rfl, two _ e (by simp) f12 hD12 f13 hR13⟩⟩⟩
    · have e : v.callX o = v := by unfold Dv.callX; rw [if_neg (by omega), if_neg (by omega), if_neg (by omega), if_neg (by omega), if_neg (by omega)]
      refine ⟨_, C.pb.o2, ?_⟩
      by_cases hn : o.i < 1 ∨ 8192 < o.i
      · exact new_bad_c hn ⟨_, _, rfl, _, C.pb.o2, rnew_bad_c hn ⟨_, _, rfl, num_c ⟨_, rfl, cond_t rfl (cond_t rfl (cond_t rfl (other v e rfl hD11 hR11 C ⟨Kp.refl _ _, fun _ _ _ => rfl⟩)))⟩⟩⟩
      · obtain ⟨N, hN⟩ : ∃ N : Nat, o.i = (N : Int) := ⟨o.i.toNat, by omega⟩
        have hg : GoC Try.prog F_sectors_New #[.int .i64 (N : Int)] w11 fun e' w31 => match e' with | .returned v' => ∃ (p15 : Option Addr) (n51 : Int), v' = (.tuple #[(.pointer p15), (.int .i64 n51)]) ∧ n51 = 0 ∧ (∃ p', p15 = some ⟨p', 0, none⟩ ∧ ∃ ow31, DX w31 ow31 100 p' (Dv.new N) ∧ Kp no w11 w31) | .panicked ch => False | .outgrown => False :=
          new_c (ow := ow11) (by omega) (by omega) 100 fun p' w31 ow31 hD31 k31 ho31 _ => ⟨_, _, rfl, rfl, p', rfl, ow31, hD31, k31⟩
        rw [hN]
        refine ⟨hg.1, hg.2.mono fun e' w31 hh => ?_⟩
        cases e' with
        | panicked ch => exact hh.elim
        | outgrown => exact hh.elim
        | returned v' =>
          obtain ⟨p15, n51, rfl, rfl, p', rfl, ow31, hD31, k31⟩ := hh
          refine ⟨_, _, rfl, _, (C.kp0 k31).pb.o2, ?_⟩
          rw [hN]
          refine rnew_c (ow := ow31) (by omega) (by omega) 200 fun r' w32 ow32 hR32 k32 ho32 _ => ⟨_, _, rfl, num_c ⟨_, rfl, cond_t rfl (cond_t rfl (cond_f rfl ?_))⟩⟩
          have kk := k31.trans0 k32
          refine size_c (hD31.kp0 k32) ⟨_, rfl, rsize_c hR32 ⟨_, rfl, other v e (by simp) (hD11.kp0 kk) (hR11.kp0 kk) (C.kp0 kk) ((Fro.kp0 kk).mono fun _ _ => trivial)⟩⟩
    · have e : v.callX o = v := by unfold Dv.callX; rw [if_neg (by omega), if_neg (by omega), if_neg (by omega), if_neg (by omega), if_neg (by omega)]
      have hmc := C.m.sl.2.1
      refine ⟨⟨by omega, by omega⟩, trivial, ?_⟩
      rw [subA_zero, Int.toNat_natCast]
      -- room is filled with zeros, and its content laid again
      have back : ∀ {w' ow'} (Y : List UInt8), Y.length = X.length → SlT w' ow' T_uint8 1 a5 (X.length + 2) c5 (bvs (Y ++ [90, 91])) 2 → Rd w' a3 (bvs X) → ∀ {K : Value → World → Prop}, (∀ w'', SlT w'' ow' T_uint8 1 a5 (X.length + 2) c5 (bvs (X ++ [90, 91])) 2 → Fro (fun x => x ≠ 2) w' ow' w'' ow' → K (.int .i64 (X.length : Int)) w'') →
          RunF Try.prog (Builtin.copy_ #[T_s_uint8, T_s_uint8] T_int #[.slice a5 (X.length + 2) c5, .slice a3 X.length X.length]) w' K := fun {w' ow'} Y hY hm hi K hK' =>
        hm.copy_back hi (fun h0 => List.eq_nil_of_length_eq_zero (hn3 h0)) rfl (by omega) fun w'' hm'' f'' => hK' w'' (by rw [ovr_front X Y hY.symm] at hm''; exact hm'') f''
      by_cases hb : X.length = 0 ∨ X.length % 512 ≠ 0 ∨ 4194304 < X.length
      · refine load_bad_c hb ⟨_, _, rfl, rload_bad_c hb ⟨_, _, rfl, num_c ⟨_, rfl, cond_t rfl ?_⟩⟩⟩
        refine loopN (fun s w' => ∃ k : Nat, s.1 = (k : Int) ∧ k ≤ X.length ∧ SlT w' ow11 T_uint8 1 a5 (X.length + 2) c5 (bvs ((List.replicate X.length 0).take k ++ X.drop k ++ [90, 91])) 2 ∧ Fro (fun x => x ≠ 2) w11 ow11 w' ow11) (fun s _ => X.length - s.1.toNat) ⟨0, rfl, by omega, by simpa using C.m, ⟨Kp.refl _ _, fun _ _ _ => rfl⟩⟩ ?_
        rintro ⟨k0, u'⟩ w12 ⟨k, hk0, hkx, hm, f12⟩ _
        dsimp only at hk0 ⊢
        subst hk0
        refine cond_d (fun hlt => ?_) (fun hge => ?_)
        · have hkw : IntKind.wrap .i64 ((k : Int) + 1) = ((k + 1 : Nat) : Int) := by rw [wrap_i64 (by omega) (by omega)]; omega
          rw [hkw]
          have hkl : k < X.length := by omega
          obtain ⟨b, cur, ha, _⟩ := hm.sl.addr (by omega)
          refine ⟨by omega, by omega, _, ha, slt_put hm ha (i := k) (by omega) (by rw [Int.toNat_natCast, add_at]) fun w13 hm13 f13 => ⟨⟨k + 1, rfl, by omega, ?_, f12.trans f13⟩, by simp only [Int.toNat_natCast]; omega⟩⟩
          have e0 : (Value.int .u8 0) = bv 0 := rfl
          rw [e0, bvs_set, List.set_append_left _ _ (by simp; omega), half_set (x := 0) (by simpa using hkl) (by simp) (by simp)] at hm13
          exact hm13
        · have hke : k = X.length := by omega
          subst hke
          refine cond_t rfl (cond_t rfl ?_)
          refine back (List.replicate X.length 0) (by simp) (by rw [List.take_of_length_le (by simp), List.drop_eq_nil_of_le (by omega), List.append_nil] at hm; exact hm) ((C.i.fr f12 (by decide)).sl.rd) fun w13 hm13 f13 => ⟨_, rfl, ?_⟩
          have f1113 := f12.trans f13
          refine other v e rfl (hD11.fr f1113 (by omega) (by omega) (by omega) (by omega)) (hR11.fr f1113 (by omega) (by omega) (by omega) (by omega)) ?_ (f1113.mono fun x hx => hx.2.2.1)
          have g1 := blk_fr C.x1 C.t1 f1113 (by decide)
          have g2 := blk_fr C.x2 C.t2 f1113 (by decide)
          have g4 := blk_fr C.x4 C.t4 f1113 (by decide)
          exact ⟨C.i.fr f1113 (by decide), hm13, C.l.fr f1113 (by decide), g1.1, g2.1, g4.1, g1.2, g2.2, g4.2, C.a.fr f1113 fun x hx => by subst hx; decide⟩
      · obtain ⟨N, hN⟩ : ∃ N, X.length = N * 512 := ⟨X.length / 512, by omega⟩
        refine load_c (ow := ow11) (bs := X) (hroom C).rd hN (by omega) (by omega) (u + 10) fun p' w12 ow12 hD12 k12 ho12 _ => ⟨_, _, rfl, ?_⟩
        have f12 : Fro (fun _ => True) w11 ow11 w12 ow12 := Fro.new k12 ho12
        have C12 := C.fr f12 fun _ _ => trivial
        refine rload_c (ow := ow12) (bs := X) C12.i.sl.rd rfl hN (by omega) (by omega) (u + 20) fun r' w13 ow13 hR13 k13 ho13 _ => ⟨_, _, rfl, num_c ⟨_, rfl, cond_t rfl ?_⟩⟩
        have f13 : Fro (fun _ => True) w12 ow12 w13 ow13 := Fro.new k13 ho13
        have C13 := C12.fr f13 fun _ _ => trivial
        have hD13 := hD12.fr f13 trivial trivial trivial trivial
        have f1113 := f12.trans f13
        refine loopN (fun s w' => ∃ k : Nat, s.1 = (k : Int) ∧ k ≤ X.length ∧ SlT w' ow13 T_uint8 1 a5 (X.length + 2) c5 (bvs ((List.replicate X.length 0).take k ++ X.drop k ++ [90, 91])) 2 ∧ Fro (fun x => x ≠ 2) w13 ow13 w' ow13) (fun s _ => X.length - s.1.toNat) ⟨0, rfl, by omega, by simpa using C13.m, ⟨Kp.refl _ _, fun _ _ _ => rfl⟩⟩ ?_
        rintro ⟨k0, u'⟩ w14 ⟨k, hk0, hkx, hm, f14⟩ _
        dsimp only at hk0 ⊢
        subst hk0
        refine cond_d (fun hlt => ?_) (fun hge => ?_)
        · have hkw : IntKind.wrap .i64 ((k : Int) + 1) = ((k + 1 : Nat) : Int) := by rw [wrap_i64 (by omega) (by omega)]; omega
          rw [hkw]
          have hkl : k < X.length := by omega
          obtain ⟨b, cur, ha, _⟩ := hm.sl.addr (by omega)
          refine ⟨by omega, by omega, _, ha, slt_put hm ha (i := k) (by omega) (by rw [Int.toNat_natCast, add_at]) fun w15 hm15 f15 => ⟨⟨k + 1, rfl, by omega, ?_, f14.trans f15⟩, by simp only [Int.toNat_natCast]; omega⟩⟩
          have e0 : (Value.int .u8 0) = bv 0 := rfl
          rw [e0, bvs_set, List.set_append_left _ _ (by simp; omega), half_set (x := 0) (by simpa using hkl) (by simp) (by simp)] at hm15
          exact hm15
        · have hke : k = X.length := by omega
          subst hke
          refine cond_t rfl (cond_f rfl ?_)
          have hD14 := hD13.fr f14 (by omega) (by omega) (by omega) (by omega)
          have hR14 := hR13.fr f14 (by omega) (by omega) (by omega) (by omega)
          refine looks_c hD14 hR14 (by simp [Dv.load]) fun w15 k15 => ⟨_, rfl, ?_⟩
          have f15 : Fro (fun _ => True) w14 ow13 w15 ow13 := Fro.kp0 k15
          have hm15 := hm.fr f15 trivial
          refine back (List.replicate X.length 0) (by simp) (by rw [List.take_of_length_le (by simp), List.drop_eq_nil_of_le (by omega), List.append_nil] at hm15; exact hm15) (((C13.i.fr f14 (by decide)).fr f15 trivial).sl.rd) fun w16 hm16 f16 => ⟨_, rfl, ?_⟩
          have ff : Fro (fun x => x ≠ 2) w11 ow11 w16 ow13 := (((f1113.mono fun _ _ => trivial).trans f14).trans (f15.mono fun _ _ => trivial)).trans f16
          refine other v e rfl (hD11.fr ff (by omega) (by omega) (by omega) (by omega)) (hR11.fr ff (by omega) (by omega) (by omega) (by omega)) ?_ (ff.mono fun x hx => hx.2.2.1)
          have g1 := blk_fr C.x1 C.t1 ff (by decide)
          have g2 := blk_fr C.x2 C.t2 ff (by decide)
          have g4 := blk_fr C.x4 C.t4 ff (by decide)
          exact ⟨C.i.fr ff (by decide), hm16, C.l.fr ff (by decide), g1.1, g2.1, g4.1, g1.2, g2.2, g4.2, C.a.fr ff fun x hx => by subst hx; decide⟩
    · have e : v.callX o = v := by unfold Dv.callX; rw [if_neg (by omega), if_neg (by omega), if_neg (by omega), if_neg (by omega), if_neg (by omega)]
      exact other v e rfl hD11 hR11 C ⟨Kp.refl _ _, fun _ _ _ => rfl⟩
  rintro s w48 ⟨rfl, ow48, hD48, hR48, C48, f48⟩ _
  dsimp only
  refine ⟨fun s w' => s = (true, ()) ∧ ∃ ow', DX w' ow' t p (v.callX o) ∧ RX w' ow' u r (v.callX o) ∧ SlT w' ow' T_uint8 1 a5 (X.length + 2) c5 (bvs (X ++ [90, 91])) 2 ∧ Fro (fun x => Td t x ∧ Td u x ∧ x ≠ 2 ∧ x ≠ 3) w11 ow11 w' ow', ?_, ?_⟩
  · refine cond_t rfl ⟨_, _, _, _, _, C48.pb.l, _, _, _, _, _, C48.pb.ol, ?_⟩
    refine spoilt_c C48.l (C48.a.mono fun x hx => by subst hx; decide) (by omega) fun w49 ow49 f49 => ⟨_, rfl, cond_t rfl ?_⟩
    have m49 := C48.m.fr f49 (by decide)
    have i49 := C48.i.fr f49 (by decide)
    have hmc := m49.sl.2.1
    refine ⟨⟨by omega, by omega⟩, trivial, ?_⟩
    rw [subA_zero, Int.toNat_natCast]
    have hrX : Rd w49 a5 (bvs X) := fun i v hv => by
      have hi : i < X.length := by have := (List.getElem?_eq_some_iff.1 hv).1; rwa [bvs_len] at this
      exact m49.sl.rd i v (by rw [bvs_app, List.getElem?_append_left (by rw [bvs_len]; exact hi)]; exact hv)
    refine same_c hrX rfl (fun h0 => by have := sl_some' m49.sl h0; omega) i49.sl.rd rfl hn3 ⟨_, rfl, cond_t (decide_eq_true rfl) ?_⟩
    have e1 : IntKind.wrap .i64 (((X.length : Nat) : Int) + 1) = ((X.length + 1 : Nat) : Int) := by rw [wrap_i64 (by omega) (by omega)]; omega
    rw [e1]
    obtain ⟨b', o', ha', h90⟩ := m49.sl.rd X.length (bv 90) (by rw [bvs_app, List.getElem?_append_right (by rw [bvs_len]; omega), bvs_len, Nat.sub_self]; rfl)
    obtain ⟨b'', o'', ha'', h91⟩ := m49.sl.rd (X.length + 1) (bv 91) (by rw [bvs_app, List.getElem?_append_right (by rw [bvs_len]; omega), bvs_len, Nat.add_sub_cancel_left]; rfl)
    rw [ha'] at ha''
    cases ha''
    refine ⟨by omega, by omega, _, ha', ((90 : UInt8).toNat : Int), by rw [add_at]; exact h90, cond_t (by decide) ⟨by omega, by omega, _, ha', ((91 : UInt8).toNat : Int), by rw [Int.toNat_natCast, add_at]; exact h91, by decide, ow49, hD48.fr f49 (by omega) (by omega) (by omega) (by omega), hR48.fr f49 (by omega) (by omega) (by omega) (by omega), m49, f48.trans (f49.mono fun x hx => hx.2.2.2)⟩⟩
  rintro s w51 ⟨rfl, ow51, hD51, hR51, m51, f51⟩ _
  dsimp only
  refine ⟨fun _ w' => ∃ ow', DX w' ow' t p (v.callX o) ∧ RX w' ow' u r (v.callX o) ∧ Fro (fun x => Td t x ∧ Td u x ∧ x ≠ 2 ∧ x ≠ 3) w11 ow11 w' ow', ?_, ?_⟩
  · refine loopN (fun s w' => ∃ (k : Nat) (xs : List Value), s.1 = (k : Int) ∧ k ≤ X.length + 2 ∧ SlT w' ow51 T_uint8 1 a5 (X.length + 2) c5 xs 2 ∧ Fro (fun x => x ≠ 2) w51 ow51 w' ow51) (fun s _ => X.length + 2 - s.1.toNat) ⟨0, _, rfl, by omega, m51, ⟨Kp.refl _ _, fun _ _ _ => rfl⟩⟩ ?_
    rintro ⟨k0, u'⟩ w52 ⟨k, xs, hk0, hkx, hm, f52⟩ _
    dsimp only at hk0 ⊢
    subst hk0
    refine cond_d (fun hlt => ?_) (fun hge => ⟨ow51, hD51.fr f52 (by omega) (by omega) (by omega) (by omega), hR51.fr f52 (by omega) (by omega) (by omega) (by omega), f51.trans (f52.mono fun x hx => hx.2.2.1)⟩)
    have hkw : IntKind.wrap .i64 ((k : Int) + 1) = ((k + 1 : Nat) : Int) := by rw [wrap_i64 (by omega) (by omega)]; omega
    rw [hkw]
    obtain ⟨b, cur, ha, _⟩ := hm.sl.addr (by omega)
    exact ⟨by omega, by omega, _, ha, slt_put hm ha (i := k) (by omega) (by rw [Int.toNat_natCast, add_at]) fun w53 hm53 f53 => ⟨⟨k + 1, _, rfl, by omega, hm53, f52.trans f53⟩, by simp only [Int.toNat_natCast]; omega⟩⟩
  rintro s w54 ⟨ow54, hD54, hR54, f54⟩ _
  exact hK w54 ow54 hD54 hR54 ((f011.mono fun _ _ => trivial).trans f54)
end Go.Proofs.Ytkhdmbgcbogndaa
