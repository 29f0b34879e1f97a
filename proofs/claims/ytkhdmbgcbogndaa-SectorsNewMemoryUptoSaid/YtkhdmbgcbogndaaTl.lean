/- Many writes; the statements' cutPuts; Kept. Conditions: none. -/
import Derived.Test.YtkhdmbgcbogndaaTj
set_option linter.unusedVariables false
set_option linter.unusedSimpArgs false
namespace Go.Proofs.Ytkhdmbgcbogndaa
open Go Go.RowKit

/-- A put. -/
structure PU where
  i : Int
  f : UInt8
def PU.cs (x : PU) : List Value := [.int .i64 x.i, bv x.f]
theorem PU.cs_len (x : PU) : x.cs.length = 2 := rfl
def fU : List PU → List Value := flatV PU.cs
theorem fU_len (L : List PU) : (fU L).length = L.length * 2 := flatV_len PU.cs_len L
theorem fU_at (L : List PU) {k : Nat} (hk : k < L.length) : (fU L)[k * 2]? = some (.int .i64 (L[k]).i) ∧ (fU L)[k * 2 + 1]? = some (bv (L[k]).f) := by
  have h0 := flatV_get PU.cs_len L k hk 0 (by omega)
  have h1 := flatV_get PU.cs_len L k hk 1 (by omega)
  rw [Nat.add_zero] at h0
  exact ⟨h0, h1⟩
def PU.q (n : Nat) (x : PU) : Int × List UInt8 := (x.i % (n : Int), fillN x.f 512)
def PU.Ok (x : PU) : Prop := -9223372036854775808 ≤ x.i ∧ x.i ≤ 9223372036854775807
/-- Writes that are taken. -/
def wroteL (v : Dv) : List PU → Dv
  | [] => v
  | x :: r => wroteL (v.bump.add (x.i % (v.n : Int)) (fillN x.f 512)) r
theorem wroteL_app : ∀ (L M : List PU) (v : Dv), wroteL v (L ++ M) = wroteL (wroteL v L) M
  | [], M, v => rfl
  | x :: r, M, v => by rw [List.cons_append, wroteL, wroteL, wroteL_app r M]
structure WrF (v v' : Dv) (L : List PU) : Prop where
  img : v'.img = v.img
  q : v'.q = v.q ++ L.map (PU.q v.n)
  down : v'.down = v.down
  keep : v'.keep = v.keep
  torn : v'.torn = v.torn
  off : v'.off = v.off
  step : v.step = 0 → v'.step = 0
theorem wroteL_f : ∀ (L : List PU) (v : Dv), WrF v (wroteL v L) L
  | [], v => ⟨rfl, by simp [wroteL], rfl, rfl, rfl, rfl, fun h => h⟩
  | x :: r, v => by
    have ih := wroteL_f r (v.bump.add (x.i % (v.n : Int)) (fillN x.f 512))
    refine ⟨ih.img, ?_, ih.down, ih.keep, ih.torn, ih.off, fun h => ih.step ?_⟩
    · rw [wroteL, ih.q]
      show (v.q ++ [(x.i % (v.n : Int), fillN x.f 512)]) ++ r.map (PU.q v.n) = v.q ++ (x :: r).map (PU.q v.n)
      rw [List.append_assoc]
      rfl
    · show (if v.step = 0 then (0 : Int) else v.step - 1) = 0
      rw [if_pos h]
theorem write_ok {v : Dv} {i : Int} {bs : List UInt8} (hd : v.down = false) (hs : v.step = 0) (hi : v.there i) (hb : bs.length = 512) : v.write i bs = (0, v.bump.add i bs) := by
  unfold Dv.write
  rw [hd, if_neg (by decide), if_neg (by simpa using hi), if_neg (by omega), if_neg (by omega)]
theorem there_mod {v : Dv} (h : v.Ok) (i : Int) : v.there (i % (v.n : Int)) := by
  have := h.n1
  exact ⟨Int.emod_nonneg _ (by omega), Int.emod_lt_of_pos _ (by omega)⟩

/-- A put in a list that stays. -/
theorem puI {S : World → Prop} {w : World} {a : Option Addr} {L : List PU} (h0 : S w) (hS : ∀ w, S w → Rd w a (fU L)) {k : Nat} (hk : k < L.length) : ∃ b o, a = some ⟨b, o, none⟩ ∧ (∀ w, S w → w.cell? ((⟨b, o, none⟩ : Addr).add (k * 2)) = some (.int .i64 (L[k]).i)) ∧ (∀ w, S w → w.cell? (Addr.add ((⟨b, o, none⟩ : Addr).add (k * 2)) 1) = some (bv (L[k]).f)) := by
  obtain ⟨e0, e1⟩ := fU_at L hk
  obtain ⟨b, o, ha, _⟩ := hS w h0 _ _ e0
  refine ⟨b, o, ha, fun w' hw => ?_, fun w' hw => ?_⟩
  · obtain ⟨b', o', ha', hc⟩ := hS w' hw _ _ e0
    rw [ha] at ha'
    cases ha'
    rw [add_at]
    exact hc
  · obtain ⟨b', o', ha', hc⟩ := hS w' hw _ _ e1
    rw [ha] at ha'
    cases ha'
    rw [add_at, add_at, Nat.add_assoc]
    exact hc

set_option maxRecDepth 100000 in
theorem wrote_c {w : World} {ow : Nat → Nat} {t b l1 c1 : Nat} {v : Dv} {a1 : Option Addr} {L : List PU} {most : Nat} {U : Nat → Prop} {R : Ending → World → Prop} (h : DX w ow t b v) (hr : RdT w ow U a1 (fU L)) (hU : ∀ u, U u → Td t u) (hl : L.length = l1) (hm : most ≤ 1000) (hd : v.down = false) (hs : v.step = 0)
    (hi : ∀ x ∈ L, x.Ok) (hq : v.q.length ≤ 900000) (hln : v.keep.length * 8 ≤ 140737488355328)
    (hK : ∀ w' ow', DX w' ow' t b (wroteL v (L.take most)) → Fro (Td t) w ow w' ow' → R (.returned (.bool true)) w') : GoC Try.prog F_law03_wrote #[.pointer (some ⟨b, 0, none⟩), .slice a1 l1 c1, .int .i64 (most : Int)] w R := by
  refine S_law03_wrote ?_
  unfold W_law03_wrote
  subst hl
  refine loopN (fun s w' => ∃ (k : Nat) (ow' : Nat → Nat), s.1 = (k : Int) ∧ k ≤ L.length ∧ k ≤ most ∧ DX w' ow' t b (wroteL v (L.take k)) ∧ Fro (Td t) w ow w' ow') (fun s _ => L.length - s.1.toNat) ⟨0, ow, rfl, by omega, by omega, by simpa [wroteL] using h, ⟨Kp.refl _ _, fun _ _ _ => rfl⟩⟩ ?_
  rintro ⟨k0, u⟩ w1 ⟨k, ow1, hk0, hkl, hkm, hD, f1⟩ _
  dsimp only at hk0 ⊢
  subst hk0
  have fin : (k = L.length ∨ k = most) → R (.returned (.bool true)) w1 := fun hh => by
    have e : L.take most = L.take k := by
      rcases hh with hh | hh
      · rw [hh, List.take_of_length_le (by omega), List.take_length]
      · rw [hh]
    exact hK w1 ow1 (by rw [e]; exact hD) f1
  refine cond_d (fun hlt => cond_d (fun hlt2 => ?_) (fun hge => fin (.inr (by omega)))) (fun hge => fin (.inl (by omega)))
  have hk : k < L.length := by omega
  have hkw : IntKind.wrap .i64 ((k : Int) + 1) = ((k + 1 : Nat) : Int) := by rw [wrap_i64 (by omega) (by omega)]; omega
  rw [hkw]
  have F := wroteL_f (L.take k) v
  have hokD := hD.ok
  have hst := take_snoc_get L k hk
  have hwst : wroteL v (L.take (k + 1)) = (wroteL v (L.take k)).bump.add ((L[k]).i % ((wroteL v (L.take k)).n : Int)) (fillN (L[k]).f 512) := by rw [hst, wroteL_app]; rfl
  have hxo := hi _ (List.getElem_mem hk)
  generalize hV : wroteL v (L.take k) = V at *
  have kd : Kp no w1 w1.drew := Kp.drew w1 1
  have hr1 := hr.fr f1 fun u hu => hU u hu
  obtain ⟨b1, o1, ha1, hc1, hc2⟩ := puI (S := fun w' => Rd w' a1 (fU L)) hr1.rd (fun w' hw => hw) hk
  refine ⟨fun w' => Rd w' a1 (fU L), hr1.rd.kp0 kd, by omega, hlt, _, ha1, (L[k]).i, fun w' hw => by rw [Int.toNat_natCast]; exact hc1 w' hw, by omega, hlt, _, ha1, ((L[k]).f.toNat : Int), fun w' hw => by rw [Int.toNat_natCast]; exact hc2 w' hw, ?_⟩
  have n1 := hokD.n1
  have n2 := hokD.n2
  refine size_c (hD.kp0 kd) ⟨_, rfl, hr1.rd.kp0 kd, brought_c (by omega) (by omega) hxo.1 hxo.2 ⟨_, rfl, hr1.rd.kp0 kd, ?_⟩⟩
  have el : lenO 0 = 512 := by decide
  refine filled_c fun a3 w3 hs3 k3 fr3 => ⟨_, _, _, rfl, ?_⟩
  rw [el] at hs3 ⊢
  have f3 : Fro (fun _ => True) w1.drew ow1 w3 (ext ow1 w1.drew.heap.size (t + 3)) := Fro.of_kp0 (t + 3) k3
  have fd : Fro (fun _ => True) w1 ow1 w1.drew ow1 := Fro.kp0 kd
  have hA3 : SlT w3 (ext ow1 w1.drew.heap.size (t + 3)) T_uint8 1 a3 512 512 (bvs (fillN (L[k]).f 512)) (t + 3) := SlT.new hs3 fr3 (t + 3)
  have hD3 := (hD.kp0 kd).fr f3 trivial trivial trivial trivial
  have hr3 := (hr1.fr fd fun _ _ => trivial).fr f3 fun _ _ => trivial
  generalize ext ow1 w1.drew.heap.size (t + 3) = ow3 at *
  refine ⟨hr3.rd, ?_⟩
  have hw := write_ok (v := V) (bs := fillN (L[k]).f 512) (by rw [F.down]; exact hd) (F.step hs) (there_mod hokD (L[k]).i) (fillN_len _ _)
  refine write_l (v := V) hD3 (hA3.bs ⟨by omega, by omega, by omega⟩ (by rw [fillN_len]; omega)) (fillN_len _ _) ?_ (by rw [F.keep]; exact hln) fun w4 ow4 hD4 f4 => ⟨_, rfl, ?_⟩
  · rw [F.q, List.length_append, List.length_map, List.length_take]; omega
  have hr4 := hr3.fr f4 fun u hu => hU u hu
  refine ⟨hr4.rd, num_c ⟨_, rfl, hr4.rd, cond_f (by rw [hw]; rfl) ⟨⟨k + 1, ow4, rfl, by omega, by omega, ?_, ((f1.trans (fd.mono fun _ _ => trivial)).trans (f3.mono fun _ _ => trivial)).trans f4⟩, by simp only [Int.toNat_natCast]; omega⟩⟩⟩
  rw [hwst]
  rw [hw] at hD4
  exact hD4

theorem cutPuts_c {w : World} {a1 : Option Addr} {l1 c1 : Nat} {R : Ending → World → Prop} (hlc : l1 ≤ c1) (h : ∀ c, R (.returned (.slice a1 (min l1 120) c)) w) : GoC Try.prog F_law03_cutPuts #[.slice a1 l1 c1] w R := by
  refine S_law03_cutPuts ?_
  unfold W_law03_cutPuts
  refine cond_d (fun hgt => ⟨⟨by decide, by omega⟩, trivial, ?_⟩) (fun hle => ?_)
  · have := h c1
    rw [show min l1 120 = 120 by omega] at this
    rw [subA_zero]
    exact this
  · have := h c1
    rw [show min l1 120 = l1 by omega] at this
    exact this

/-- Kept, as the document has it. -/
theorem Kept_c {w : World} {a : Option Addr} {c k : Nat} {keep : List Nat} {n1 n2 : Int} {R : Ending → World → Prop} (hr : Rd w a (keep.map u64v)) (hlt : ∀ x ∈ keep, x < 18446744073709551616) (hkl : keep.length ≤ 9223372036854775807) (hk : k ≤ 1000000000) (h : ∀ w', Kp no w w' → R (.returned (.bool (keptN keep k))) w') :
    GoC Try.prog F_ref03_Kept #[.agg #[.slice a keep.length c, .int .i64 n1, .int .i64 n2], .int .i64 (k : Int)] w R := by
  refine S_ref03_Kept ?_
  unfold W_ref03_Kept
  refine AlF.intro fun b1 w1 hb1e hb1 k1 s1 => ⟨by decide, ?_⟩
  have e1 : IntKind.wrap .i64 (Int.tdiv (k : Int) 64) = ((k / 64 : Nat) : Int) := by
    rw [show Int.tdiv (k : Int) 64 = ((k / 64 : Nat) : Int) from rfl]
    exact wrap_i64 (by omega) (by omega)
  have e2 : IntKind.wrap .u64 (Int.tmod (k : Int) 64) = ((k % 64 : Nat) : Int) := by
    rw [show Int.tmod (k : Int) 64 = ((k % 64 : Nat) : Int) from rfl]
    exact wrap_u64 (by omega) (by omega)
  rw [e1, e2]
  refine ⟨_, _, _, hb1.cell 0, cond_d (fun hlt' => ?_) (fun hge => ?_)⟩
  · have hkk : k / 64 < keep.length := by omega
    refine ⟨_, _, _, hb1.cell 0, by decide, ?_⟩
    obtain ⟨b, o, ha, hcell⟩ := (hr.kp0 k1) (k / 64) (u64v keep[k / 64]) (by simp [hkk])
    refine ⟨by omega, hlt', _, ha, (keep[k / 64] : Int), by rw [Int.toNat_natCast, add_at]; exact hcell, by decide, by omega, ?_⟩
    have hx := hlt _ (List.getElem_mem hkk)
    have e3 : andV .u64 (shrV .u64 (keep[k / 64] : Int) ((k % 64 : Nat) : Int)) 1 = ((keep[k / 64] / 2 ^ (k % 64) % 2 : Nat) : Int) := by
      rw [shrV_nat (by simp only [IntKind.bits]; omega), show (1 : Int) = ((1 : Nat) : Int) from rfl, andV_nat rfl (by simp only [IntKind.bits]; exact Nat.lt_of_le_of_lt (Nat.div_le_self _ _) (by omega)) (by simp only [IntKind.bits]; omega), and_1]
    rw [e3]
    have e4 : (((keep[k / 64] / 2 ^ (k % 64) % 2 : Nat) : Int) == 1) = keptN keep k := by
      unfold keptN
      rw [decide_eq_true hkk, Bool.true_and]
      have : keep.getD (k / 64) 0 = keep[k / 64] := by simp [hkk]
      rw [this]
      rw [Bool.eq_iff_iff, beq_iff_eq, decide_eq_true_eq]
      omega
    rw [e4]
    exact h w1 k1
  · have e4 : keptN keep k = false := by
      unfold keptN
      rw [decide_eq_false (by omega), Bool.false_and]
    have := h w1 k1
    rw [e4] at this
    exact this
end Go.Proofs.Ytkhdmbgcbogndaa
