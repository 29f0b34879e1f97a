/- The statement FieldBack, walked: it answers true. Conditions: the checksum's table stands. -/
import Derived.Test.YtplfoedgekdjgaaDoorPd
import Derived.Laws.MakeOwn
set_option linter.unusedVariables false
set_option linter.unusedSimpArgs false
namespace Go.Proofs.YtplfoedgekdjgaaDoor
open Go Go.RowKit

theorem make_u8 {w : World} {n : Nat} (hn : n ≤ 70368744177664) {K : Value → World → Prop}
    (h : ∀ b w' cur, Blk w' b cur T_uint8 → cur.toList = bvs (List.replicate n 0) → Kp no w w' → b = w.heap.size → K (.slice (some ⟨b, 0, none⟩) n n) w') :
    RunF Tryd.prog (Instr.makeSlice T_s_uint8 (.int .i64 (n : Int)) (.int .i64 (n : Int))) w K := by
  obtain ⟨ht, i, hi, hz, hs, hb, _⟩ := er_u8
  have hrun := run_make (P := Tryd.prog) w T_s_uint8 T_uint8 i (.int .u8 0) ht hi hz .i64 .i64 (n : Int) (n : Int) (by omega) (Int.le_refl _) (by rw [hb]; omega) (by omega)
  rw [Int.toNat_natCast] at hrun
  refine ⟨_, _, hrun, AlF.intro (K := fun b w' => K (.slice (some ⟨b, 0, none⟩) n n) w') fun b w' hb hblk k _ => h b w' _ hblk ?_ k hb⟩
  rw [hs, Nat.mul_one]
  apply List.ext_getElem?
  intro j
  simp only [madeCells, Array.toList_map, Array.toList_range, List.getElem?_map, bvs, List.map_replicate, List.getElem?_replicate]
  by_cases hj : j < n
  · rw [List.getElem?_range hj, if_pos hj]
    simp [Value.cells, Nat.mod_one, bv]
  · rw [List.getElem?_eq_none (by simpa using hj), if_neg hj]
    rfl

theorem tmod_bd2 (a : Int) {m : Int} (hm : 0 < m) : -m < Int.tmod a m ∧ Int.tmod a m < m := ⟨Int.lt_tmod_of_pos a hm, Int.tmod_lt_of_pos a hm⟩

theorem put_l {w : World} {b c l : Nat} {cur : Array Value} {T : TypeId} {bs : List UInt8} {at_ size : Int} {n : Nat} {R : Ending → World → Prop} (hl : bs.length = l) (hblk : Blk w b cur T) (hcur : cur.toList = bvs bs)
    (hb : bs.length < 70368744177664) (hn : n < 18446744073709551616)
    (h : ∀ cur' w', Blk w' b cur' T → (∀ i v, (bvs (putR bs at_ size n).1)[i]? = some v → cur'[0 + i]? = some v) → Kp (fun k => k = b) w w' → R (.returned (.int .i64 ((putR bs at_ size n).2 : Int))) w') :
    GoC Tryd.prog F_field_Put #[.slice (some ⟨b, 0, none⟩) l c, .int .i64 at_, .int .i64 size, .int .u64 (n : Int)] w R := by
  subst hl
  exact put_c hblk (fun i v hv => by rw [Nat.zero_add, ← Array.getElem?_toList, hcur]; exact hv) hb hn fun cur' w' h1 _ h3 _ h5 => h cur' w' h1 h3 h5
theorem get_l {w : World} {a : Option Addr} {c l : Nat} {bs : List UInt8} {at_ size : Int} {x : Nat × Nat} {R : Ending → World → Prop} (hl : bs.length = l) (hx : getR bs at_ size = x) (hr : Rd w a (bvs bs)) (hb : bs.length < 70368744177664)
    (h : R (.returned (.tuple #[.int .u64 (x.1 : Int), .int .i64 (x.2 : Int)])) w) :
    GoC Tryd.prog F_field_Get #[.slice a l c, .int .i64 at_, .int .i64 size] w R := by
  subst hl hx
  exact get_c hr hb h

theorem over_mid {l x : List UInt8} {i : Nat} (h : i ≤ l.length) : ((over l i x).drop i).take x.length = x := by
  unfold over
  rw [List.append_assoc, List.drop_left' (by rw [List.length_take]; omega), List.take_left]
theorem over_back {l x : List UInt8} {i j : Nat} (h : i + x.length ≤ j) (hi : i ≤ l.length) : (over l i x)[j]? = l[j]? := by
  unfold over
  have h1 : (l.take i).length = i := by rw [List.length_take]; omega
  rw [List.getElem?_append_right (by rw [List.length_append, h1]; omega), List.getElem?_drop, List.length_append, h1]
  congr 1
  omega
theorem leN_zeros : ∀ k, leN (List.replicate k 0) = 0
  | 0 => rfl
  | k + 1 => by rw [List.replicate_succ, leN, leN_zeros k]; rfl

def wbytes (l : List NumL) : List UInt8 := l.flatMap fun x => vform x.code
theorem wbytes_snoc {l : List NumL} {i : Nat} (h : i < l.length) : wbytes (l.take (i + 1)) = wbytes (l.take i) ++ vform (l[i]).code := by
  rw [take_snoc_get l i h]
  simp only [wbytes, List.flatMap_append, List.flatMap_cons, List.flatMap_nil, List.append_nil]
theorem wbytes_at {l : List NumL} {i : Nat} (h : i < l.length) : (wbytes l).drop (wbytes (l.take i)).length = vform (l[i]).code ++ wbytes (l.drop (i + 1)) := by
  have h1 : wbytes l = wbytes (l.take i) ++ wbytes (l.drop i) := by
    have : l = l.take i ++ l.drop i := (List.take_append_drop i l).symm
    conv => lhs; rw [this]
    simp only [wbytes, List.flatMap_append]
  rw [h1, List.drop_left, List.drop_eq_getElem_cons h]
  simp only [wbytes, List.flatMap_cons]
theorem wbytes_len : ∀ {l : List NumL}, (∀ x ∈ l, x.ok) → (wbytes l).length ≤ 10 * l.length
  | [], _ => by simp [wbytes]
  | x :: l, h => by
    have h1 := wbytes_len (l := l) fun y hy => h y (List.mem_cons_of_mem _ hy)
    have h2 := vform_len64 (NumL.code_lt (h x List.mem_cons_self))
    simp only [wbytes, List.flatMap_cons, List.length_append, List.length_cons] at h1 ⊢
    omega

/-- Numbers, as a slice of them stands in memory. -/
def Nums (w : World) (a : Option Addr) (L : List NumL) : Prop :=
  ∀ i (h : i < L.length), ∃ b o, a = some ⟨b, o, none⟩ ∧ w.cell? ⟨b, o + i * 3, none⟩ = some (.bool (L[i]).sg) ∧ w.cell? ⟨b, o + i * 3 + 1, none⟩ = some (.int .u64 ((L[i]).n : Int)) ∧ w.cell? ⟨b, o + i * 3 + 2, none⟩ = some (.int .i64 (L[i]).i)
theorem Nums.kp {S : Nat → Prop} {w w' : World} {a : Option Addr} {L : List NumL} (h : Nums w a L) (k : Kp S w w') (hn : ∀ b, Is a b → b < w.heap.size → ¬ S b) : Nums w' a L := by
  intro i hi
  obtain ⟨b, o, ha, h0, h1, h2⟩ := h i hi
  have hs : ¬ S b := hn b ⟨_, ha, rfl⟩ (cell_lt h0)
  exact ⟨b, o, ha, k.cell h0 hs, k.cell h1 hs, k.cell h2 hs⟩
theorem Nums.kp0 {w w' : World} {a : Option Addr} {L : List NumL} (h : Nums w a L) (k : Kp no w w') : Nums w' a L := h.kp k fun _ _ _ h => h.elim

theorem some_c {w : World} {a : Option Addr} {l c : Nat} {R : Ending → World → Prop} (hlc : l ≤ c)
    (h : R (.returned (.slice a (min l 500) c)) w) : GoC Tryd.prog F_law02_some #[.slice a l c] w R := by
  refine S_law02_some ?_
  unfold W_law02_some
  refine cond_d (fun hg => ⟨⟨by omega, by omega⟩, trivial, ?_⟩) (fun hg => ?_)
  · rw [subA_zero]
    have : min l 500 = (500 : Int).toNat := by omega
    rw [this] at h
    exact h
  · have : min l 500 = l := by omega
    rw [this] at h
    exact h

set_option maxHeartbeats 1000000 in
theorem fieldBack_c {w : World} {a1 : Option Addr} {l1 c1 : Nat} {L0 : List NumL} {at0 : Int} {R : Ending → World → Prop} (hnib : Nib w)
    (hL : Nums w a1 L0) (hLl : L0.length = l1) (hLc : l1 ≤ c1) (hLok : ∀ x ∈ L0, x.ok)
    (h : ∀ w', Kp no w w' → R (.returned (.bool true)) w') : GoC Tryd.prog F_law02_FieldBack #[.slice a1 l1 c1, .int .i64 at0] w R := by
  refine S_law02_FieldBack ?_
  unfold W_law02_FieldBack
  refine awake_c hnib fun w1 k1 => ⟨_, rfl, cond_f rfl ?_⟩
  refine some_c hLc ⟨a1, _, c1, rfl, ?_⟩
  have hL1 : Nums w1 a1 (L0.take 500) := by
    intro i hi
    have := hL.kp0 k1 i (by rw [List.length_take] at hi; omega)
    rw [List.getElem_take]
    exact this
  have hll : (L0.take 500).length = min l1 500 := by rw [List.length_take]; omega
  have hok : ∀ x ∈ L0.take 500, x.ok := fun x hx => hLok x (List.mem_of_mem_take hx)
  have hl5 : min l1 500 ≤ 500 := by omega
  generalize L0.take 500 = L at *
  generalize min l1 500 = l at *
  clear hL hLok hLl hLc
  subst hll
  refine newWriter_c fun Bw w3 hw3 k3 hBw => ⟨_, rfl, ?_⟩
  have hwl : ∀ i, (wbytes (L.take i)).length ≤ 5000 := by
    intro i
    have := wbytes_len (l := L.take i) fun x hx => hok x (List.mem_of_mem_take hx)
    rw [List.length_take] at this
    omega
  have a1lt : ∀ i (hi : i < L.length) b, Is a1 b → b < w1.heap.size := by
    intro i hi b hb
    obtain ⟨b', o, ha, h0, _⟩ := hL1 i hi
    obtain ⟨ad, had, rfl⟩ := hb
    rw [ha] at had
    cases had
    exact cell_lt (a := ⟨b', o + i * 3, none⟩) h0
  refine loopN (fun s w' => ∃ i : Nat, i ≤ L.length ∧ s.1 = (i : Int) ∧ ∃ g, Wr w' Bw g (wbytes (L.take i)) ∧ (∀ k, fpW Bw g k → w1.heap.size ≤ k) ∧ Kp no w1 w') (fun s _ => L.length - s.1.toNat)
    ⟨0, Nat.zero_le _, rfl, none, by rw [List.take_zero]; exact hw3, ?_, k3⟩ ?_
  · rintro k (rfl | hh)
    · exact hBw
    · exact (not_is_none hh).elim
  rintro ⟨i0, u⟩ w4 ⟨i, hi, hi0, g, hw4, fw, k4⟩ _
  dsimp only at hi0 ⊢
  subst hi0
  have hL4 := hL1.kp0 k4
  have hwi : i < L.length → IntKind.wrap .i64 ((i : Int) + 1) = ((i + 1 : Nat) : Int) := fun _ => by rw [wrap_i64 (by omega) (by omega)]; omega
  refine cond_d (fun hlt => ?_) (fun hge => ?_)
  · have hil : i < L.length := by omega
    have hxo := hok L[i] (List.getElem_mem hil)
    refine ⟨fun _ w' => ∃ g', Wr w' Bw g' (wbytes (L.take (i + 1))) ∧ (∀ k, fpW Bw g' k → w1.heap.size ≤ k) ∧ Kp no w1 w', ?_, ?_⟩
    · have b4 := hwl i
      obtain ⟨b, o, ha, h0, h1, h2⟩ := hL4 i hil
      have done : ∀ g' w5, Wr w5 Bw g' (wbytes (L.take i) ++ vform (L[i]).code) → Kp (fpW Bw g) w4 w5 → (∀ k, Is g' k → Is g k ∨ w4.heap.size ≤ k) → ∃ g', Wr w5 Bw g' (wbytes (L.take (i + 1))) ∧ (∀ k, fpW Bw g' k → w1.heap.size ≤ k) ∧ Kp no w1 w5 := by
        intro g' w5 hw5 k5 hi5
        refine ⟨g', by rw [wbytes_snoc hil]; exact hw5, ?_, k4.trans k5 (fun _ _ h => h) fun k hk hh => by have := fw k hh; omega⟩
        rintro k (rfl | hk)
        · exact fw _ (.inl rfl)
        · rcases hi5 k hk with hh | hh
          · exact fw k (.inr hh)
          · have := k4.size; omega
      refine ⟨by omega, hlt, _, ha, (L[i]).sg, by rw [Int.toNat_natCast, add_at]; exact h0, cond_b (fun hq => ?_) (fun hq => ?_)⟩
      · refine ⟨by omega, hlt, _, ha, (L[i]).i, by rw [Int.toNat_natCast, add_at, add_at]; exact h2, ?_⟩
        refine writer_S hw4 hxo.2.1 hxo.2.2 (by omega) fun g' w5 hw5 k5 hi5 => ⟨rfl, ?_⟩
        refine done g' w5 ?_ k5 hi5
        unfold NumL.code
        rw [hq, if_pos rfl]
        exact hw5
      · refine ⟨by omega, hlt, _, ha, ((L[i]).n : Int), by rw [Int.toNat_natCast, add_at, add_at]; exact h1, ?_⟩
        refine writer_U hw4 hxo.1 (by omega) fun g' w5 hw5 k5 hi5 => ⟨rfl, ?_⟩
        refine done g' w5 ?_ k5 hi5
        unfold NumL.code
        rw [hq, if_neg (by simp)]
        exact hw5
    · rintro u w5 ⟨g', hw5, fw5, k5⟩ _
      rw [hwi hil]
      exact ⟨⟨i + 1, by omega, rfl, g', hw5, fw5, k5⟩, by simp only [Int.toNat_natCast]; omega⟩
  have hie : i = L.length := by omega
  subst hie
  clear hi hge hwi
  have bl := hwl L.length
  rw [List.take_length] at hw4 bl
  refine writer_Out hw4 (by omega) fun a8 c8 w8 hs8 k8 hf8 => ⟨_, _, _, rfl, ?_⟩
  refine newReader_c hs8.rd rfl (fun hh => by subst hh; exact hs8.zero.1) (by omega) fun Br gr w9 hr9 k9 hBr hfr => ⟨_, rfl, cond_f rfl ?_⟩
  have k19 : Kp no w1 w9 := (k4.trans0 k8).trans0 k9
  have hBr1 : w1.heap.size ≤ Br := by have := (k4.trans0 k8).size; omega
  have hL9 := hL1.kp0 k19
  have nob : ∀ i (hi : i < L.length) b, Is a1 b → b ≠ Br := fun i hi b hb hh => by have := a1lt i hi b hb; omega
  have fr : ∀ {y z : World}, Kp no w1 y → Kp (fun k => k = Br) y z → Kp no w1 z := fun a b => a.trans b (fun _ _ h => h) fun k hk hh => by omega
  refine loopN (fun s w' => ∃ i : Nat, i ≤ L.length ∧ s.1 = (i : Int) ∧ Re w' Br gr (wbytes L) (wbytes (L.take i)).length 0 ∧ Kp no w1 w') (fun s _ => L.length - s.1.toNat)
    ⟨0, Nat.zero_le _, rfl, by rw [List.take_zero]; exact hr9, k19⟩ ?_
  rintro ⟨i0, u⟩ w10 ⟨i, hi, hi0, hr10, k10⟩ _
  dsimp only at hi0 ⊢
  subst hi0
  have hwi : i < L.length → IntKind.wrap .i64 ((i : Int) + 1) = ((i + 1 : Nat) : Int) := fun _ => by rw [wrap_i64 (by omega) (by omega)]; omega
  refine cond_d (fun hlt => ?_) (fun hge => ?_)
  · have hil : i < L.length := by omega
    have hxo := hok L[i] (List.getElem_mem hil)
    have hcl := NumL.code_lt hxo
    have hd := wbytes_at hil
    have hsn : (wbytes (L.take (i + 1))).length = (wbytes (L.take i)).length + (vform (L[i]).code).length := by rw [wbytes_snoc hil, List.length_append]
    refine ⟨fun s w' => s.1 = false ∧ Re w' Br gr (wbytes L) (if (L[i]).sg = true then (wbytes (L.take (i + 1))).length else (wbytes (L.take i)).length) 0 ∧ Kp no w1 w', ?_, ?_⟩
    · refine ⟨fun w' => Kp (fun k => k = Br) w10 w', (Kp.drew w10 1).of_no, ?_⟩
      have held : ∀ w', Kp (fun k => k = Br) w10 w' → Nums w' a1 L := fun w' kk => (hL1.kp0 k10).kp kk fun b hb _ hh => nob i hil b hb hh
      obtain ⟨b, o, ha, _⟩ := hL1 i hil
      have cells : ∀ w', Kp (fun k => k = Br) w10 w' → w'.cell? ⟨b, o + i * 3, none⟩ = some (.bool (L[i]).sg) ∧ w'.cell? ⟨b, o + i * 3 + 1, none⟩ = some (.int .u64 ((L[i]).n : Int)) ∧ w'.cell? ⟨b, o + i * 3 + 2, none⟩ = some (.int .i64 (L[i]).i) := by
        intro w' kk
        obtain ⟨b', o', ha', hc⟩ := held w' kk i hil
        rw [ha] at ha'
        cases ha'
        exact hc
      refine ⟨by omega, hlt, _, ha, (L[i]).sg, fun w' kk => by rw [Int.toNat_natCast, add_at]; exact (cells w' kk).1, cond_b (fun hq => ?_) (fun hq => ?_)⟩
      · refine ⟨by omega, hlt, _, ha, (L[i]).i, fun w' kk => by rw [Int.toNat_natCast, add_at, add_at]; exact (cells w' kk).2.2, ?_⟩
        refine reader_S (st := ((wbytes (L.take i)).length, 0)) (hr10.kp0 (Kp.drew w10 1)) (by omega) fun w11 hr11 k11 => ⟨_, rfl, ?_⟩
        rw [rdU_ok hcl (by omega) hd] at hr11 ⊢
        have kk : Kp (fun k => k = Br) w10 w11 := ((Kp.drew w10 1).of_no).trans0 k11
        have hu : unzig (L[i]).code = (L[i]).i := by unfold NumL.code; rw [hq, if_pos rfl, unzig_zig]
        refine ⟨kk, by simp [hu], ?_, fr k10 kk⟩
        rw [if_pos hq, hsn]
        exact hr11
      · refine ⟨rfl, ?_, k10.trans0 (Kp.drew w10 1)⟩
        rw [if_neg (by simp [hq])]
        exact hr10.kp0 (Kp.drew w10 1)
    rintro ⟨b18, u18⟩ w12 ⟨hb18, hr12, k12⟩ _
    dsimp only at hb18
    subst hb18
    refine cond_f rfl ?_
    refine ⟨fun s w' => s.1 = false ∧ Re w' Br gr (wbytes L) (wbytes (L.take (i + 1))).length 0 ∧ Kp no w1 w', ?_, ?_⟩
    · refine ⟨fun w' => Kp (fun k => k = Br) w12 w', (Kp.drew w12 1).of_no, ?_⟩
      have held : ∀ w', Kp (fun k => k = Br) w12 w' → Nums w' a1 L := fun w' kk => (hL1.kp0 k12).kp kk fun b hb _ hh => nob i hil b hb hh
      obtain ⟨b, o, ha, _⟩ := hL1 i hil
      have cells : ∀ w', Kp (fun k => k = Br) w12 w' → w'.cell? ⟨b, o + i * 3, none⟩ = some (.bool (L[i]).sg) ∧ w'.cell? ⟨b, o + i * 3 + 1, none⟩ = some (.int .u64 ((L[i]).n : Int)) ∧ w'.cell? ⟨b, o + i * 3 + 2, none⟩ = some (.int .i64 (L[i]).i) := by
        intro w' kk
        obtain ⟨b', o', ha', hc⟩ := held w' kk i hil
        rw [ha] at ha'
        cases ha'
        exact hc
      refine ⟨by omega, hlt, _, ha, (L[i]).sg, fun w' kk => by rw [Int.toNat_natCast, add_at]; exact (cells w' kk).1, cond_not (cond_b (fun hq => ?_) (fun hq => ?_))⟩
      · refine ⟨rfl, ?_, k12.trans0 (Kp.drew w12 1)⟩
        rw [if_pos hq] at hr12
        exact hr12.kp0 (Kp.drew w12 1)
      · rw [if_neg (by simp [hq])] at hr12
        refine ⟨by omega, hlt, _, ha, ((L[i]).n : Int), fun w' kk => by rw [Int.toNat_natCast, add_at, add_at]; exact (cells w' kk).2.1, ?_⟩
        refine ⟨by omega, hlt, _, ha, ((L[i]).n : Int), fun w' kk => by rw [Int.toNat_natCast, add_at, add_at]; exact (cells w' kk).2.1, ?_⟩
        refine reader_U (st := ((wbytes (L.take i)).length, 0)) (m := (L[i]).n) (hr12.kp0 (Kp.drew w12 1)) (by omega) fun w13 hr13 k13 => ⟨_, rfl, ?_⟩
        have hcn : (L[i]).code = (L[i]).n := by unfold NumL.code; rw [hq, if_neg (by simp)]
        rw [rdU_ok hcl (by omega) hd] at hr13 ⊢
        have kk : Kp (fun k => k = Br) w12 w13 := ((Kp.drew w12 1).of_no).trans0 k13
        refine ⟨kk, by simp [hcn], ?_, fr k12 kk⟩
        rw [hsn]
        exact hr13
    rintro ⟨b20, u20⟩ w14 ⟨hb20, hr14, k14⟩ _
    dsimp only at hb20
    subst hb20
    refine cond_f rfl ?_
    rw [hwi hil]
    exact ⟨⟨i + 1, by omega, rfl, hr14, k14⟩, by simp only [Int.toNat_natCast]; omega⟩
  have hie : i = L.length := by omega
  subst hie
  clear hi hge hwi
  rw [List.take_length] at hr10
  refine reader_End (st := ((wbytes L).length, 0)) hr10 fun w15 hr15 k15 => ⟨rfl, ?_⟩
  rw [if_neg (by dsimp only; omega)] at hr15
  have k15' := fr k10 k15
  refine reader_Fault (st := ((wbytes L).length, 0)) hr15 fun w16 k16 => ⟨_, _, rfl, ?_⟩
  have k16' := k15'.trans0 k16
  refine ⟨fun s w' => s.1 = false ∧ w' = w16, cond_f rfl (num_c ⟨_, rfl, rfl, rfl⟩), ?_⟩
  rintro ⟨b24, u24⟩ w18 ⟨hb24, hw18⟩ _
  dsimp only at hb24
  subst hb24
  rw [hw18]
  refine cond_f rfl ⟨by decide, ?_⟩
  refine ⟨fun s w' => w' = w16 ∧ 0 ≤ s.1 ∧ s.1 < 100, ?_, ?_⟩
  · have hb := tmod_bd2 at0 (m := 100) (by omega)
    refine cond_d (fun hlt => ?_) (fun hge => ?_)
    · rw [wrap_i64 (by omega) (by omega)]
      exact ⟨rfl, by dsimp only; omega, by dsimp only; omega⟩
    · exact ⟨rfl, by dsimp only; omega, by dsimp only; omega⟩
  rintro ⟨at1, u28⟩ w19 ⟨hw19, hat0, hat1⟩ _
  dsimp only at hat0 hat1 ⊢
  rw [hw19]
  obtain ⟨at_, rfl⟩ : ∃ k : Nat, at1 = (k : Int) := ⟨at1.toNat, by omega⟩
  refine loopN (fun s w' => Kp no w1 w' ∧ ∃ i : Nat, s.1 = (i : Int)) (fun s _ => L.length - s.1.toNat) ⟨k16', 0, rfl⟩ ?_
  rintro ⟨i0, u⟩ w20 ⟨k20, i, hi0⟩ _
  dsimp only at hi0 ⊢
  subst hi0
  refine cond_d (fun hlt => ?_) (fun hge => h _ (k1.trans0 k20))
  have hil : i < L.length := by omega
  have hxo := hok L[i] (List.getElem_mem hil)
  have hwi : IntKind.wrap .i64 ((i : Int) + 1) = ((i + 1 : Nat) : Int) := by rw [wrap_i64 (by omega) (by omega)]; omega
  rw [hwi]
  refine loopN (fun s w' => Kp no w1 w' ∧ ∃ z : Nat, s.1 = (z : Int) ∧ 1 ≤ z ∧ z ≤ 9) (fun s _ => 9 - s.1.toNat) ⟨k20, 1, rfl, by omega, by omega⟩ ?_
  rintro ⟨z0, u'⟩ w21 ⟨k21, z, hz0, hz1, hz9⟩ _
  dsimp only at hz0 ⊢
  subst hz0
  refine cond_d (fun hz8 => ?_) (fun hz8 => ⟨⟨k21, i + 1, rfl⟩, by simp only [Int.toNat_natCast]; omega⟩)
  have e1 : IntKind.wrap .i64 ((at_ : Int) + (z : Int)) = ((at_ + z : Nat) : Int) := by rw [wrap_i64 (by omega) (by omega)]; omega
  have e2 : IntKind.wrap .i64 (((at_ + z : Nat) : Int) + 2) = ((at_ + z + 2 : Nat) : Int) := by rw [wrap_i64 (by omega) (by omega)]; omega
  have e3 : IntKind.wrap .i64 (((at_ + z : Nat) : Int) + 1) = ((at_ + z + 1 : Nat) : Int) := by rw [wrap_i64 (by omega) (by omega)]; omega
  have e4 : IntKind.wrap .i64 (8 * (z : Int)) = ((8 * z : Nat) : Int) := by rw [wrap_i64 (by omega) (by omega)]; omega
  have e5 : IntKind.wrap .i64 ((z : Int) + 1) = ((z + 1 : Nat) : Int) := by rw [wrap_i64 (by omega) (by omega)]; omega
  rw [e1, e2, e3, e4, e5]
  refine make_u8 (by omega) fun bb w22 cur hblk hcur k22 hbb => ⟨_, _, _, rfl, ?_⟩
  have k22' := k21.trans0 k22
  have s21 := k21.size
  obtain ⟨b, o, ha, _, h1, _⟩ := hL1.kp0 k22' i hil
  refine ⟨by omega, hlt, _, ha, ((L[i]).n : Int), by rw [Int.toNat_natCast, add_at, add_at]; exact h1, ?_⟩
  generalize hN : (L[i]).n = N at *
  have hNlt : N < 18446744073709551616 := by rw [← hN]; exact hxo.1
  have hZl : (List.replicate (at_ + z + 2) (0 : UInt8)).length = at_ + z + 2 := List.length_replicate
  refine put_l (bs := List.replicate (at_ + z + 2) (0 : UInt8)) hZl hblk hcur (by omega) hNlt fun cur' w23 hblk' hcur' k23 => ⟨_, rfl, ?_⟩
  have k23' : Kp no w1 w23 := k22'.trans k23 (fun _ _ h => h) fun k hk hh => by omega
  have hfits : fits (List.replicate (at_ + z + 2) (0 : UInt8)).length (at_ : Int) (z : Int) := by
    rw [hZl]
    exact ⟨by omega, by omega, by omega, by omega⟩
  have hP : putR (List.replicate (at_ + z + 2) (0 : UInt8)) (at_ : Int) (z : Int) N = if N < 256 ^ z then (over (List.replicate (at_ + z + 2) 0) at_ (leB8 z N), 0) else (List.replicate (at_ + z + 2) 0, 23) := by
    unfold putR
    rw [if_pos hfits, Int.toNat_natCast, Int.toNat_natCast]
  have hlen' : (putR (List.replicate (at_ + z + 2) (0 : UInt8)) (at_ : Int) (z : Int) N).1.length = at_ + z + 2 := by
    rw [hP]
    split
    · rw [over_len (by rw [leB8_len, hZl]; omega), hZl]
    · exact hZl
  have hval : getR (putR (List.replicate (at_ + z + 2) (0 : UInt8)) (at_ : Int) (z : Int) N).1 (at_ : Int) (z : Int) = (if N < 256 ^ z then N else 0, 0) := by
    unfold getR
    rw [if_pos (by rw [hlen']; rw [hZl] at hfits; exact hfits), Int.toNat_natCast, Int.toNat_natCast, hP]
    by_cases hn : N < 256 ^ z
    · rw [if_pos hn, if_pos hn]
      dsimp only
      have := over_mid (l := List.replicate (at_ + z + 2) (0 : UInt8)) (x := leB8 z N) (i := at_) (by rw [hZl]; omega)
      rw [leB8_len] at this
      rw [this, leN_leB8, Nat.mod_eq_of_lt hn]
    · rw [if_neg hn, if_neg hn]
      dsimp only
      rw [List.drop_replicate, List.take_replicate, leN_zeros]
  have hback : ∀ j, at_ + z ≤ j → j < at_ + z + 2 → cur'[j]? = some (.int .u8 0) := by
    intro j hj hj2
    have hb : (putR (List.replicate (at_ + z + 2) (0 : UInt8)) (at_ : Int) (z : Int) N).1[j]? = some 0 := by
      rw [hP]
      split
      · dsimp only
        rw [over_back (by rw [leB8_len]; omega) (by rw [hZl]; omega), List.getElem?_replicate, if_pos hj2]
      · dsimp only
        rw [List.getElem?_replicate, if_pos hj2]
    have := hcur' j (bv 0) (by rw [bvs, List.getElem?_map, hb]; rfl)
    rwa [Nat.zero_add] at this
  have herr : (putR (List.replicate (at_ + z + 2) (0 : UInt8)) (at_ : Int) (z : Int) N).2 = if N < 256 ^ z then 0 else 23 := by
    rw [hP]
    split <;> rfl
  refine get_l hlen' hval (Rd.of_blk hblk' (o := 0) hcur') (by omega) ⟨_, _, rfl, ?_⟩
  rw [herr]
  refine num_c ⟨_, rfl, cond_f rfl ?_⟩
  obtain ⟨b', o', ha', _, h1', _⟩ := hL1.kp0 k23' i hil
  rw [hN] at h1'
  refine ⟨fun s w' => s.1 = decide (z < 8 ∧ 256 ^ z ≤ N) ∧ w' = w23, ?_, ?_⟩
  · refine cond_d (fun hlt8 => ?_) (fun hge8 => ?_)
    · refine ⟨by omega, hlt, _, ha', (N : Int), by rw [Int.toNat_natCast, add_at, add_at]; exact h1', by omega, ?_, rfl⟩
      dsimp only
      rw [shrV_nat (by simp only [IntKind.bits]; omega), ← pow256]
      apply decide_eq_decide.2
      have hp : 0 < 256 ^ z := Nat.pow_pos (by omega)
      constructor
      · intro hh
        refine ⟨by omega, ?_⟩
        apply Classical.byContradiction
        intro hn
        rw [Nat.div_eq_of_lt (by omega)] at hh
        omega
      · rintro ⟨_, hh⟩
        have := Nat.div_pos hh hp
        omega
    · refine ⟨?_, rfl⟩
      dsimp only
      exact (decide_eq_false (by omega)).symm
  rintro ⟨b40, u40⟩ w26 ⟨hb40, hw26⟩ _
  dsimp only at hb40
  subst hb40
  rw [hw26]
  have next : (Kp no w1 w23 ∧ ∃ y : Nat, ((z + 1 : Nat) : Int) = (y : Int) ∧ 1 ≤ y ∧ y ≤ 9) ∧ 9 - ((z + 1 : Nat) : Int).toNat < 9 - (z : Int).toNat := ⟨⟨k23', z + 1, rfl, by omega, by omega⟩, by simp only [Int.toNat_natCast]; omega⟩
  have hp8 : z = 8 → N < 256 ^ z := fun hh => by subst hh; omega
  refine cond_d (fun hyes => ?_) (fun hno => ?_)
  · rw [if_neg (by omega), if_neg (by omega)]
    refine ⟨fun s w' => s.1 = false ∧ w' = w23, num_c ⟨_, rfl, cond_f rfl ⟨rfl, rfl⟩⟩, ?_⟩
    rintro ⟨b41, u41⟩ w28 ⟨hb41, hw28⟩ _
    dsimp only at hb41
    subst hb41
    rw [hw28]
    exact cond_f rfl next
  · have hn : N < 256 ^ z := by
      by_cases h8 : z = 8
      · exact hp8 h8
      · apply Classical.byContradiction
        intro hh
        exact hno ⟨by omega, by omega⟩
    rw [if_pos hn, if_pos hn]
    refine ⟨fun s w' => s.1 = false ∧ w' = w23, num_c ⟨_, rfl, cond_f rfl ?_⟩, ?_⟩
    · refine ⟨by omega, hlt, _, ha', (N : Int), by rw [Int.toNat_natCast, add_at, add_at]; exact h1', cond_f (by simp) ?_⟩
      refine ⟨by omega, by omega, _, rfl, 0, by rw [Int.toNat_natCast, add_at, hblk'.cell, Nat.zero_add]; exact hback _ (by omega) (by omega), cond_f rfl ?_⟩
      exact ⟨by omega, by omega, _, rfl, 0, by rw [Int.toNat_natCast, add_at, hblk'.cell, Nat.zero_add]; exact hback _ (by omega) (by omega), rfl, rfl⟩
    rintro ⟨b43, u43⟩ w30 ⟨hb43, hw30⟩ _
    dsimp only at hb43
    subst hb43
    rw [hw30]
    exact cond_f rfl next
end Go.Proofs.YtplfoedgekdjgaaDoor
