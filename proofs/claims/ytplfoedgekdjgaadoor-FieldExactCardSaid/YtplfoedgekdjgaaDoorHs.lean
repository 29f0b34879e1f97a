/- The contract of 'sums' of the statements of layer 2. Conditions: the checksum's table stands. -/
import Derived.Test.YtplfoedgekdjgaaDoorHi
set_option linter.unusedVariables false
set_option linter.unusedSimpArgs false
namespace Go.Proofs.YtplfoedgekdjgaaDoor
open Go Go.RowKit

/-- Bytes twice: lent, at block b; a copy of their own, at a. -/
structure SE where
  b : Nat
  c : Nat
  a : Option Addr
  c' : Nat
  bs : List UInt8
def SE.ownV (e : SE) : Value := .slice (some ⟨e.b, 0, none⟩) e.bs.length e.c
def SE.lV (e : SE) : Value := .slice e.a e.bs.length e.c'
structure SE.ok (w : World) (ow : Nat → Nat) (k : Nat) (e : SE) : Prop where
  own : Sl w T_uint8 1 (some ⟨e.b, 0, none⟩) (e.bs.length + 3) e.c (bvs (e.bs ++ marks))
  t1 : ow e.b = 10 + 2 * k
  l : Sl w T_uint8 1 e.a e.bs.length e.c' (bvs e.bs)
  t2 : Tg ow (11 + 2 * k) (Is e.a)
  le : e.bs.length ≤ 4000
theorem SE.ok.lt {w : World} {ow : Nat → Nat} {k : Nat} {e : SE} (h : e.ok w ow k) : e.b < w.heap.size := h.own.lt _ ⟨_, rfl, rfl⟩
theorem SE.ok.fr {T : Nat → Prop} {w w' : World} {ow ow' : Nat → Nat} {k : Nat} {e : SE} (h : e.ok w ow k) (f : Fro T w ow w' ow') (h1 : T (10 + 2 * k)) (h2 : T (11 + 2 * k)) : e.ok w' ow' k :=
  ⟨h.own.kp f.kp fun b hb hn => hn (by obtain ⟨ad, had, rfl⟩ := hb; cases had; dsimp only; rw [h.t1]; exact h1), by rw [f.ag _ h.lt (by rw [h.t1]; exact h1), h.t1],
    h.l.kp f.kp fun b hb hn => hn (by rw [h.t2 b hb]; exact h2), h.t2.fr f h2 h.l.lt, h.le⟩

structure SumI (w : World) (ow : Nat → Nat) (ao : Option Addr) (co : Nat) (al : Option Addr) (cl : Nat) (E : List SE) (X : List Value) : Prop where
  own : Sl w T_s_uint8 1 ao (E.length + X.length) co (E.map SE.ownV ++ X)
  l : Sl w T_s_uint8 1 al E.length cl (E.map SE.lV)
  t1 : Tg ow 1 (Is ao)
  t2 : Tg ow 2 (Is al)
  each : ∀ k (h : k < E.length), (E[k]).ok w ow k
theorem SumI.fr {T : Nat → Prop} {w w' : World} {ow ow' : Nat → Nat} {ao : Option Addr} {co : Nat} {al : Option Addr} {cl : Nat} {E : List SE} {X : List Value} (h : SumI w ow ao co al cl E X) (f : Fro T w ow w' ow') (ht : ∀ t, t ≠ 0 → T t) : SumI w' ow' ao co al cl E X :=
  ⟨h.own.kp f.kp fun b hb hn => hn (by rw [h.t1 b hb]; exact ht _ (by omega)), h.l.kp f.kp fun b hb hn => hn (by rw [h.t2 b hb]; exact ht _ (by omega)), h.t1.fr f (ht _ (by omega)) h.own.lt, h.t2.fr f (ht _ (by omega)) h.l.lt,
    fun k hk => (h.each k hk).fr f (ht _ (by omega)) (ht _ (by omega))⟩
theorem SumI.rdO {w : World} {ow : Nat → Nat} {ao : Option Addr} {co : Nat} {al : Option Addr} {cl : Nat} {E : List SE} {X : List Value} (h : SumI w ow ao co al cl E X) {i : Nat} (hi : i < E.length) : ∃ b o, ao = some ⟨b, o, none⟩ ∧ w.cell? ⟨b, o + i, none⟩ = some (E[i]).ownV :=
  h.own.rd i _ (by rw [List.getElem?_append_left (by simpa using hi)]; simp [hi])
theorem SumI.rdL {w : World} {ow : Nat → Nat} {ao : Option Addr} {co : Nat} {al : Option Addr} {cl : Nat} {E : List SE} {X : List Value} (h : SumI w ow ao co al cl E X) {i : Nat} (hi : i < E.length) : ∃ b o, al = some ⟨b, o, none⟩ ∧ w.cell? ⟨b, o + i, none⟩ = some (E[i]).lV :=
  h.l.rd i _ (by simp [hi])

/-- Lists of bytes that came in. -/
structure PsIn (w : World) (a : Option Addr) (L : List Part) : Prop where
  rd : Rd w a (L.map Part.val)
  each : ∀ p ∈ L, Rd w p.a (bvs p.bs) ∧ p.bs.length = p.l ∧ (p.a = none → p.l = 0) ∧ p.l ≤ p.c
theorem PsIn.kp0 {w w' : World} {a : Option Addr} {L : List Part} (h : PsIn w a L) (k : Kp no w w') : PsIn w' a L := ⟨h.rd.kp0 k, fun p hp => ⟨(h.each p hp).1.kp0 k, (h.each p hp).2⟩⟩

def spare : List UInt8 := [115, 112, 97, 114, 101]
def x9 (b : UInt8) : UInt8 := UInt8.ofNat (b.toNat ^^^ 9)
theorem x9_code (b : UInt8) : Value.int .u8 (xorV .u8 (b.toNat : Int) 9) = bv (x9 b) := by
  have hb := u8_lt b
  rw [show (9 : Int) = ((9 : Nat) : Int) from rfl, xorV_nat rfl (by simpa [IntKind.bits] using hb) (by simp [IntKind.bits])]
  exact bv_of (Nat.xor_lt_two_pow (n := 8) hb (by omega))

/-- Sum, of the lent bytes and of the copies. -/
theorem sums_both {w : World} {ow : Nat → Nat} {ao : Option Addr} {co : Nat} {al : Option Addr} {cl : Nat} {E : List SE} {X : List Value} {K : Int → Int → World → Prop} {C : List PanicEntry → World → Prop} (hnib : Nib w) (hS : SumI w ow ao co al cl E X) (hE : E.length ≤ 10000)
    (h : ∀ s : Int, K s s w) : CallF Tryd.prog F_field_Sum #[.slice ao E.length co] w (fun r9 w15 => ∃ (n1 : Int), r9 = (.int .u32 n1) ∧ (CallF Tryd.prog F_ref02_Sum #[.slice al E.length cl] w15 (fun r10 w16 => ∃ (n2 : Int), r10 = (.int .u32 n2) ∧ K n1 n2 w16) C)) C := by
  have e1 : (E.map fun e => (⟨some ⟨e.b, 0, none⟩, e.bs.length, e.c, e.bs⟩ : Part)).length = E.length := List.length_map _
  have e2 : (E.map fun e => (⟨e.a, e.bs.length, e.c', e.bs⟩ : Part)).length = E.length := List.length_map _
  have f1 : flat (E.map fun e => (⟨some ⟨e.b, 0, none⟩, e.bs.length, e.c, e.bs⟩ : Part)) = (E.map SE.bs).flatten := by unfold flat; rw [List.map_map]; rfl
  have f2 : flat (E.map fun e => (⟨e.a, e.bs.length, e.c', e.bs⟩ : Part)) = (E.map SE.bs).flatten := by unfold flat; rw [List.map_map]; rfl
  have hrO : Rd w ao (E.map SE.ownV) := by
    have := hS.own.rd.take E.length
    rwa [List.take_left' (by simp)] at this
  have s1 := @sum_c w ao co (E.map fun e => (⟨some ⟨e.b, 0, none⟩, e.bs.length, e.c, e.bs⟩ : Part))
  have s2 := @refSum_c w al cl (E.map fun e => (⟨e.a, e.bs.length, e.c', e.bs⟩ : Part))
  rw [e1, f1] at s1
  rw [e2, f2] at s2
  refine s1 hnib (by rw [List.map_map]; exact hrO) ?_ (by omega) ⟨_, rfl, ?_⟩
  · intro p hp
    simp only [List.mem_map] at hp
    obtain ⟨e, he, rfl⟩ := hp
    obtain ⟨k, hk, rfl⟩ := List.getElem_of_mem he
    have ho := hS.each k hk
    refine ⟨?_, rfl, by have := ho.le; dsimp only; omega⟩
    have := ho.own.rd.take (E[k]).bs.length
    rwa [bvs_app, List.take_left' (bvs_len _)] at this
  · refine s2 (by rw [List.map_map]; exact hS.l.rd) ?_ (by omega) ⟨_, rfl, h _⟩
    intro p hp
    simp only [List.mem_map] at hp
    obtain ⟨e, he, rfl⟩ := hp
    obtain ⟨k, hk, rfl⟩ := List.getElem_of_mem he
    have ho := hS.each k hk
    exact ⟨ho.l.rd, rfl, by have := ho.le; dsimp only; omega⟩

set_option maxRecDepth 20000 in
set_option maxHeartbeats 2000000 in
theorem sums_c {w : World} {a1 : Option Addr} {l1 c1 : Nat} {L : List Part} {R : Ending → World → Prop} (hnib : Nib w) (hL : PsIn w a1 L) (hl : L.length = l1)
    (h : ∀ w', Kp no w w' → R (.returned (.bool true)) w') : GoC Tryd.prog F_law02_sums #[.slice a1 l1 c1] w R := by
  refine S_law02_sums ?_
  unfold W_law02_sums
  have z0 : Old w w (fun _ => 0) := ⟨Kp.refl _ _, fun _ _ => rfl⟩
  refine ⟨fun s w' => ∃ ow E ao co al cl, s = ((ao, E.length, co), (al, E.length, cl), ()) ∧ E.length ≤ 4001 ∧ Old w w' ow ∧ SumI w' ow ao co al cl E [], ?_, ?_⟩
  · refine loopN (fun s w' => ∃ (ow : Nat → Nat) (E : List SE) (ao : Option Addr) (co : Nat) (al : Option Addr) (cl room : Nat), s = ((ao, E.length, co), (al, E.length, cl), (room : Int), (E.length : Int), ()) ∧ E.length ≤ room ∧ E.length ≤ 4001 ∧ room ≤ 9000 ∧ Old w w' ow ∧ SumI w' ow ao co al cl E []) (fun s _ => l1 - s.2.2.2.1.toNat)
      ⟨fun _ => 0, [], none, 0, none, 0, 0, rfl, by simp, by simp, by omega, z0, Sl.nil _ _ _, Sl.nil _ _ _, fun k hk => (not_is_none hk).elim, fun k hk => (not_is_none hk).elim, fun k hk => by simp at hk⟩ ?_
    rintro s w1 ⟨ow, E, ao, co, al, cl, room, rfl, hEr, hE4, hr9, hold, hS⟩ _
    dsimp only
    refine cond_d (fun hlt => cond_d (fun hroom => ?_) fun _ => ⟨ow, E, ao, co, al, cl, rfl, hE4, hold, hS⟩) fun _ => ⟨ow, E, ao, co, al, cl, rfl, hE4, hold, hS⟩
    have hiL : E.length < L.length := by omega
    have P1 := hL.kp0 hold.kp
    obtain ⟨q1, q2, q3, q4⟩ := hL.each L[E.length] (List.getElem_mem hiL)
    refine P1.rd.idx (by omega) (by omega) (by rw [List.length_map]; omega) fun b o hg hc => ?_
    refine ⟨(L[E.length]).a, (L[E.length]).l, (L[E.length]).c, by rw [Int.toNat_natCast, add_at]; exact hc _ _ (by simp [hiL, Part.val]), ?_⟩
    refine cut_c q4 ⟨_, _, _, rfl, ?_⟩
    have q1' : Rd w (L[E.length]).a (bvs ((L[E.length]).bs.take 4000)) := by rw [bvs, List.map_take]; exact q1.take 4000
    have q2' : ((L[E.length]).bs.take 4000).length = min (L[E.length]).l 4000 := by rw [List.length_take]; omega
    have q3' : (L[E.length]).a = none → min (L[E.length]).l 4000 = 0 := fun hh => by have := q3 hh; omega
    have q5' : min (L[E.length]).l 4000 ≤ 4000 := by omega
    generalize (L[E.length]).bs.take 4000 = A at *
    generalize min (L[E.length]).l 4000 = la at *
    generalize (L[E.length]).a = aa at *
    clear q1 q2 q3 q4
    subst q2'
    refine lent_c (q1'.kp0 hold.kp) rfl q3' (by omega) fun b2 cur c2 w3 hb2 hcs hcap htk k3 hf3 => ⟨_, _, _, rfl, ?_⟩
    have s3 := k3.size
    have hb2lt := hb2.lt
    have hown3 : Sl w3 T_uint8 1 (some ⟨b2, 0, none⟩) (A.length + 3) c2 (bvs (A ++ marks)) := ⟨by rw [bvs_len, List.length_append, Nat.mul_one]; rfl, hcap, .inr ⟨b2, cur, rfl, hb2, by omega, by rw [Nat.mul_one]; exact htk⟩⟩
    have so3 := hS.own.kp0 k3
    have e0 : E.length + ([] : List Value).length = E.length := rfl
    rw [e0] at so3
    refine push_own er_sl so3 (v := .slice (some ⟨b2, 0, none⟩) A.length c2) rfl (by omega) (by omega) fun ao' co' w5 so5 k5 hi5 => ?_
    have s5 := k5.size
    have aolt := hS.own.lt
    have allt := hS.l.lt
    have hold5 : Kp no w w5 := (hold.kp.trans0 k3).trans k5 (fun _ _ h => h) fun k hk hh => by have := hold.z k hk; have := hS.t1 k hh; omega
    refine append_new er_u8 (q1'.kp0 hold5) (by rw [bvs_len]; omega) q3' bvs_one (by omega) (by omega) fun a6 c6 w6 hs6 k6 hf6 _ => ⟨a6, _, c6, rfl, ?_⟩
    have s6 := k6.size
    have nLO : ∀ k, Is al k → ¬ Is ao k := fun k h1 h2 => by have := hS.t2 k h1; have := hS.t1 k h2; omega
    have sl6 := ((hS.l.kp0 k3).kp k5 nLO).kp0 k6
    refine push_own er_sl sl6 (v := .slice a6 A.length c6) rfl (by omega) (by omega) fun al' cl' w8 sl8 k8 hi8 => ?_
    have s8 := k8.size
    have hw1 : IntKind.wrap .i64 ((room : Int) + (A.length : Int)) = ((room + A.length : Nat) : Int) := by rw [wrap_i64 (by omega) (by omega)]; omega
    have hw2 : IntKind.wrap .i64 (((room + A.length : Nat) : Int) + 1) = ((room + A.length + 1 : Nat) : Int) := by rw [wrap_i64 (by omega) (by omega)]; omega
    have hw3 : IntKind.wrap .i64 ((E.length : Int) + 1) = ((E.length + 1 : Nat) : Int) := by rw [wrap_i64 (by omega) (by omega)]; omega
    rw [hw1, hw2, hw3]
    have old : ∀ k, k < w1.heap.size → ext (ext (ext (ext ow w1.heap.size (10 + 2 * E.length)) w3.heap.size 1) w5.heap.size (11 + 2 * E.length)) w6.heap.size 2 k = ow k := fun k hk => by rw [ext_old (by omega), ext_old (by omega), ext_old (by omega), ext_old hk]
    have fro : Fro (fun t => t ≠ 1 ∧ t ≠ 2) w1 ow w8 (ext (ext (ext (ext ow w1.heap.size (10 + 2 * E.length)) w3.heap.size 1) w5.heap.size (11 + 2 * E.length)) w6.heap.size 2) := by
      refine ⟨?_, fun k hk _ => old k hk⟩
      have u1 : Kp (fun k => Is ao k ∨ Is al k) w1 w8 := ((k3.of_no.trans0 (k5.mono fun k _ hk => .inl hk)).trans0 k6.of_no).trans0 (k8.mono fun k _ hk => .inr hk)
      refine u1.mono fun k _ hk ht => ?_
      rcases hk with h1 | h1
      · exact ht.1 (hS.t1 k h1)
      · exact ht.2 (hS.t2 k h1)
    have nao' : ∀ k, Is ao' k → ¬ Is al k := fun k h1 h2 => by
      have := allt k h2
      rcases hi5 k h1 with h3 | h3
      · exact nLO k h2 h3
      · omega
    have nb2 : ∀ k, Is (some ⟨b2, 0, none⟩ : Option Addr) k → k = b2 := fun k hk => by obtain ⟨ad, had, rfl⟩ := hk; cases had; rfl
    have na6 : ∀ k, Is a6 k → w5.heap.size ≤ k := hf6
    refine ⟨⟨_, E ++ [⟨b2, c2, a6, c6, A⟩], ao', co', al', cl', room + A.length + 1, by simp, by simp; omega, by simp; omega, by omega, hold.fr fro ⟨by omega, by omega⟩, ?_⟩, by simp only [Int.toNat_natCast]; omega⟩
    refine ⟨?_, ?_, fun k hk => ?_, fun k hk => ?_, fun k hk => ?_⟩
    · have := (so5.kp0 k6).kp k8 nao'
      simpa [SE.ownV] using this
    · simpa [SE.lV] using sl8
    · have hk5 := so5.lt k hk
      rw [ext_old (by omega), ext_old hk5]
      rcases hi5 k hk with h1 | h1
      · have hk1 := aolt k h1
        rw [ext_old (by omega), ext_old hk1]
        exact hS.t1 k h1
      · exact ext_new h1
    · rcases hi8 k hk with h1 | h1
      · rw [old k (allt k h1)]; exact hS.t2 k h1
      · exact ext_new h1
    · by_cases hkE : k < E.length
      · rw [List.getElem_append_left hkE]
        exact (hS.each k hkE).fr fro (by omega) (by omega)
      · have hke : k = E.length := by simp at hk; omega
        subst hke
        rw [List.getElem_append_right (Nat.le_refl _)]
        simp only [Nat.sub_self, List.getElem_cons_zero]
        refine ⟨?_, ?_, ?_, fun k hk => ?_, q5'⟩
        · refine ((hown3.kp k5 fun k h1 h2 => ?_).kp0 k6).kp k8 fun k h1 h2 => ?_
          · have := nb2 k h1; have := aolt k h2; omega
          · have := nb2 k h1; have := allt k h2; omega
        · dsimp only
          rw [ext_old (by omega), ext_old (by omega), ext_old hb2lt, ext_new hf3]
        · exact hs6.kp k8 fun k h1 h2 => by have := na6 k h1; have := allt k h2; omega
        · rw [ext_old (hs6.lt k hk), ext_new (na6 k hk)]
  · rintro s w9 ⟨ow, E, ao, co, al, cl, rfl, hE4, hold, hS⟩ _
    dsimp only
    refine AlF.intro fun b3 w10 hb3e hb3 k10 _ => ?_
    refine convert_mark (e := T_uint8) (by kernel_rfl) (by kernel_rfl) hb3 fun w11 hc11 k11 => ⟨_, _, _, rfl, ?_⟩
    have rsp : Rd w11 (some ⟨b3, 0, none⟩) (bvs spare) := fun i v hv => ⟨b3, 0, rfl, by rw [hc11, Nat.zero_add, ← Array.getElem?_toList]; exact hv⟩
    have k9 : Kp no w9 w11 := (k10.trans k11 (fun _ _ h => h) fun k hk hh => by omega)
    refine lent_c rsp (l := 5) rfl (fun h => by cases h) (by omega) fun b2 cur c2 w12 hb2 hcs hcap htk k12 hf12 => ⟨_, _, _, rfl, ?_⟩
    have k912 := k9.trans0 k12
    have s9 := k9.size
    have s12 := k12.size
    have hb2lt := hb2.lt
    have hsp12 : Sl w12 T_uint8 1 (some ⟨b2, 0, none⟩) 8 c2 (bvs (spare ++ marks)) := ⟨rfl, hcap, .inr ⟨b2, cur, rfl, hb2, by omega, htk⟩⟩
    have so12 := hS.own.kp0 k912
    have e0 : E.length + ([] : List Value).length = E.length := rfl
    rw [e0, List.append_nil] at so12
    refine push_own er_sl so12 (v := .slice (some ⟨b2, 0, none⟩) 5 c2) rfl (by omega) (by omega) fun ao' co' w14 so14 k14 hi14 => ?_
    have s14 := k14.size
    have aolt := hS.own.lt
    have allt := hS.l.lt
    have old : ∀ k, k < w9.heap.size → ext (ext ow w9.heap.size 3) w12.heap.size 1 k = ow k := fun k hk => by rw [ext_old (by omega), ext_old hk]
    have u14 : Kp (Is ao) w9 w14 := k912.of_no.trans0 k14
    have fro : Fro (fun t => t ≠ 1) w9 ow w14 (ext (ext ow w9.heap.size 3) w12.heap.size 1) := ⟨u14.mono fun k _ hk ht => ht (hS.t1 k hk), fun k hk _ => old k hk⟩
    have hold14 := hold.fr fro (by omega)
    have nb2 : ∀ k, Is (some ⟨b2, 0, none⟩ : Option Addr) k → k = b2 := fun k hk => by obtain ⟨ad, had, rfl⟩ := hk; cases had; rfl
    have hsp14 := hsp12.kp k14 fun k h1 h2 => by have := nb2 k h1; have := aolt k h2; omega
    have tsp : ext (ext ow w9.heap.size 3) w12.heap.size 1 b2 = 3 := by rw [ext_old hb2lt, ext_new (by omega)]
    have hS14 : SumI w14 (ext (ext ow w9.heap.size 3) w12.heap.size 1) ao' co' al cl E [.slice (some ⟨b2, 0, none⟩) 5 c2] := by
      refine ⟨so14, hS.l.kp u14 fun k h1 h2 => by have := hS.t2 k h1; have := hS.t1 k h2; omega, fun k hk => ?_, fun k hk => by rw [old k (allt k hk)]; exact hS.t2 k hk, fun k hk => (hS.each k hk).fr fro (by omega) (by omega)⟩
      rcases hi14 k hk with h1 | h1
      · rw [old k (aolt k h1)]; exact hS.t1 k h1
      · exact ext_new h1
    have hb2lt14 : b2 < w14.heap.size := by omega
    generalize ext (ext ow w9.heap.size 3) w12.heap.size 1 = ow14 at *
    have hnc := hS14.own.2.1
    have e1 : E.length + [Value.slice (some ⟨b2, 0, none⟩) 5 c2].length = E.length + 1 := rfl
    rw [e1] at hnc
    refine ⟨⟨by omega, by omega⟩, trivial, ?_⟩
    rw [subA_zero, Int.toNat_natCast]
    refine sums_both (hnib.kp0 hold14.kp) hS14 (by omega) fun x => ?_
    clear fro old u14 hS so12 so14 e0 k912 k9 rsp hc11 hb3 hold
    refine loopN (fun s w' => s.1 = true ∧ ∃ (i : Nat) (E' : List SE), s.2.1 = (i : Int) ∧ E'.length = E.length ∧ Old w w' ow14 ∧ SumI w' ow14 ao' co' al cl E' [.slice (some ⟨b2, 0, none⟩) 5 c2] ∧ Sl w' T_uint8 1 (some ⟨b2, 0, none⟩) 8 c2 (bvs (spare ++ marks))) (fun s _ => E.length - s.2.1.toNat)
      ⟨by simp, 0, E, rfl, rfl, hold14, hS14, hsp14⟩ ?_
    rintro ⟨ok, i0, u⟩ w17 ⟨hok, i, E', hi0, hEl, hold17, hS17, hsp17⟩ _
    dsimp only at hok hi0 ⊢
    subst hok hi0
    refine cond_d (fun hlt => ?_) (fun hge => ?_)
    · have hiE : i < E'.length := by omega
      have hwi : IntKind.wrap .i64 ((i : Int) + 1) = ((i + 1 : Nat) : Int) := by rw [wrap_i64 (by omega) (by omega)]; omega
      rw [hwi]
      have hei := hS17.each i hiE
      obtain ⟨bo, oo, hao, co_⟩ := hS17.rdO hiE
      obtain ⟨bl, ol, hal, cl_⟩ := hS17.rdL hiE
      refine ⟨fun s w' => s.1 = true ∧ ∃ (E' : List SE), E'.length = E.length ∧ Old w w' ow14 ∧ SumI w' ow14 ao' co' al cl E' [.slice (some ⟨b2, 0, none⟩) 5 c2] ∧ Sl w' T_uint8 1 (some ⟨b2, 0, none⟩) 8 c2 (bvs (spare ++ marks)), ?_, ?_⟩
      · refine ⟨fun s w' => s.1 = true ∧ Kp no w17 w', ?_, ?_⟩
        · have kd : Kp no w17 w17.drew := Kp.drew w17 1
          refine cond_t rfl ⟨by omega, by omega, _, hao, _, _, _, by rw [Int.toNat_natCast, add_at]; exact co_, by omega, by omega, _, hal, _, _, _, by rw [Int.toNat_natCast, add_at]; exact cl_, ?_⟩
          refine kept_c (hei.own.kp0 kd).rd (by rw [List.length_append]; rfl) (by have := hei.own.2.1; omega) (by simp) (hei.l.kp0 kd).rd rfl (fun hh => by have := hei.l; rw [hh] at this; exact this.zero.1) (by have := hei.le; omega) fun w18 k18 => ⟨_, rfl, by simp, kd.trans0 k18⟩
        rintro ⟨b18, u18⟩ w19 ⟨hb18, k19⟩ _
        dsimp only at hb18
        subst hb18
        have cO : ∀ wz, Kp no w17 wz → wz.cell? ((⟨bo, oo, none⟩ : Addr).add (Int.toNat (i : Int))) = some (E'[i]).ownV := fun wz kz => by rw [Int.toNat_natCast, add_at]; exact kz.cell co_ id
        have cL : ∀ wz, Kp no w17 wz → wz.cell? ((⟨bl, ol, none⟩ : Addr).add (Int.toNat (i : Int))) = some (E'[i]).lV := fun wz kz => by rw [Int.toNat_natCast, add_at]; exact kz.cell cl_ id
        have f19 : Fro (fun _ => True) w17 ow14 w19 ow14 := ⟨k19.of_no, fun _ _ _ => rfl⟩
        refine ⟨by omega, by omega, _, hal, _, _, _, cL w19 k19, cond_d (fun hpos => ?_) (fun _ => ⟨rfl, E', hEl, hold17.fr f19 trivial, hS17.fr f19 (fun _ _ => trivial), hsp17.kp0 k19⟩)⟩
        have hpos' : 0 < (E'[i]).bs.length := by omega
        have k19d := k19.trans0 (Kp.drew w19 1)
        have own19 := hei.own.kp0 k19d
        have l19 := hei.l.kp0 k19d
        have c0 : (bvs ((E'[i]).bs ++ marks))[0]? = some (bv (E'[i]).bs[0]) := by rw [bvs_app, List.getElem?_append_left (by rw [bvs_len]; exact hpos')]; exact bvs_get hpos'
        refine ⟨by omega, by omega, _, hao, _, _, _, cO _ k19d, by omega, by omega, _, hao, _, _, _, cO _ k19d, ?_⟩
        obtain ⟨b', o', hb', hc'⟩ := own19.rd 0 _ c0
        cases hb'
        refine ⟨by omega, by omega, _, rfl, ((((E'[i]).bs[0]).toNat : Nat) : Int), hc', by omega, by omega, _, rfl, ?_⟩
        rw [x9_code]
        show StF _ (Addr.add ⟨(E'[i]).b, 0, none⟩ 0) _ _
        rw [add_at]
        refine own19.put (i := 0) (by omega) rfl fun w20 hs20 k20 _ => ?_
        have hne : ∀ k, Is (E'[i]).a k → k ≠ (E'[i]).b := fun k hk hh => by have h1 := hei.t2 k hk; have h2 := hei.t1; rw [hh] at h1; omega
        have nbI : ∀ k, Is (some ⟨(E'[i]).b, 0, none⟩ : Option Addr) k → k = (E'[i]).b := fun k hk => by obtain ⟨ad, had, rfl⟩ := hk; cases had; rfl
        have l20 := (l19.kp k20 fun k h1 h2 => hne k h1 (nbI k h2)).kp0 (Kp.drew w20 1)
        have cL20 : w20.drew.cell? ((⟨bl, ol, none⟩ : Addr).add (Int.toNat (i : Int))) = some (E'[i]).lV := by
          have := cL _ k19d
          refine k20.cell (w' := w20) this fun hh => ?_
          have h3 := nbI _ hh
          have h4 : Is al bl := ⟨_, hal, rfl⟩
          have h5 := hS17.t2 _ h4
          have h6 := hei.t1
          rw [Int.toNat_natCast, add_at] at h3
          dsimp only at h3
          rw [h3] at h5
          omega
        refine ⟨by omega, by omega, _, hal, _, _, _, cL20, by omega, by omega, _, hal, _, _, _, cL20, ?_⟩
        obtain ⟨b'', o'', hb'', hc''⟩ := l20.rd 0 _ (bvs_get hpos')
        refine ⟨by omega, by omega, _, hb'', ((((E'[i]).bs[0]).toNat : Nat) : Int), ?_, by omega, by omega, _, hb'', ?_⟩
        · show w20.drew.cell? (Addr.add ⟨b'', o'', none⟩ 0) = _
          rw [add_at]; exact hc''
        rw [x9_code]
        show StF _ (Addr.add ⟨b'', o'', none⟩ 0) _ _
        rw [add_at]
        refine l20.put (i := 0) (by omega) hb'' fun w21 hs21 k21 _ => ?_
        have fr21 : Fro (fun t => t ≠ 10 + 2 * i ∧ t ≠ 11 + 2 * i) w17 ow14 w21 ow14 := by
          refine ⟨?_, fun _ _ _ => rfl⟩
          have u1 : Kp (fun k => k = (E'[i]).b ∨ Is (E'[i]).a k) w17 w21 := ((k19d.of_no.trans0 (k20.mono fun k _ hk => .inl (nbI k hk))).trans0 (Kp.drew w20 1).of_no).trans0 (k21.mono fun k _ hk => .inr hk)
          refine u1.mono fun k _ hk ht => ?_
          rcases hk with h1 | h1
          · subst h1; exact ht.1 hei.t1
          · exact ht.2 (hei.t2 k h1)
        refine ⟨rfl, E'.set i ⟨(E'[i]).b, (E'[i]).c, (E'[i]).a, (E'[i]).c', (E'[i]).bs.set 0 (x9 (E'[i]).bs[0])⟩, by rw [List.length_set]; exact hEl, hold17.fr fr21 ⟨by omega, by omega⟩, ?_, hsp17.kp fr21.kp fun k hk hn => hn (by have := nb2 k hk; subst this; rw [tsp]; exact ⟨by omega, by omega⟩)⟩
        have mo : (E'.set i ⟨(E'[i]).b, (E'[i]).c, (E'[i]).a, (E'[i]).c', (E'[i]).bs.set 0 (x9 (E'[i]).bs[0])⟩).map SE.ownV = E'.map SE.ownV := by
          rw [List.map_set]
          apply List.ext_getElem?
          intro q
          by_cases hq : q = i
          · subst hq; rw [List.getElem?_set_self (by simpa using hiE)]; simp [SE.ownV, hiE]
          · rw [List.getElem?_set_ne (by omega)]
        have ml : (E'.set i ⟨(E'[i]).b, (E'[i]).c, (E'[i]).a, (E'[i]).c', (E'[i]).bs.set 0 (x9 (E'[i]).bs[0])⟩).map SE.lV = E'.map SE.lV := by
          rw [List.map_set]
          apply List.ext_getElem?
          intro q
          by_cases hq : q = i
          · subst hq; rw [List.getElem?_set_self (by simpa using hiE)]; simp [SE.lV, hiE]
          · rw [List.getElem?_set_ne (by omega)]
        refine ⟨?_, ?_, hS17.t1, hS17.t2, fun k hk => ?_⟩
        · rw [mo, List.length_set]
          exact hS17.own.kp fr21.kp fun k hk hn => hn (by rw [hS17.t1 k hk]; exact ⟨by omega, by omega⟩)
        · rw [ml, List.length_set]
          exact hS17.l.kp fr21.kp fun k hk hn => hn (by rw [hS17.t2 k hk]; exact ⟨by omega, by omega⟩)
        · rw [List.length_set] at hk
          by_cases hki : k = i
          · subst hki
            rw [List.getElem_set_self]
            refine ⟨?_, hei.t1, ?_, hei.t2, by dsimp only; rw [List.length_set]; exact hei.le⟩
            · dsimp only
              rw [List.length_set]
              have e2 : (bvs ((E'[k]).bs ++ marks)).set 0 (bv (x9 (E'[k]).bs[0])) = bvs ((E'[k]).bs.set 0 (x9 (E'[k]).bs[0]) ++ marks) := by
                rw [bvs, ← List.map_set, List.set_append_left _ _ hpos']
                rfl
              rw [e2] at hs20
              exact (hs20.kp0 (Kp.drew w20 1)).kp k21 fun q h1 h2 => hne q h2 (nbI q h1)
            · dsimp only
              rw [List.length_set, bvs, List.map_set]
              exact hs21
          · rw [List.getElem_set_ne (by omega)]
            exact (hS17.each k hk).fr fr21 ⟨by omega, by omega⟩ ⟨by omega, by omega⟩
      · rintro ⟨b16, u16⟩ w22 ⟨hb16, E'', hE'', hold22, hS22, hsp22⟩ _
        dsimp only at hb16 ⊢
        subst hb16
        exact ⟨⟨rfl, i + 1, E'', rfl, hE'', hold22, hS22, hsp22⟩, by simp only [Int.toNat_natCast]; omega⟩
    · have hlast : (E'.map SE.ownV ++ [Value.slice (some ⟨b2, 0, none⟩) 5 c2])[E.length]? = some (.slice (some ⟨b2, 0, none⟩) 5 c2) := by
        rw [List.getElem?_append_right (by simp; omega)]
        simp [hEl]
      obtain ⟨bo, oo, hao, co_⟩ := hS17.own.rd _ _ hlast
      refine cond_t rfl ⟨by omega, by omega, _, hao, _, _, _, by rw [add_at]; exact co_, ?_⟩
      refine AlF.intro fun b5 w23 hb5e hb5 k23 _ => ?_
      refine convert_mark (e := T_uint8) (by kernel_rfl) (by kernel_rfl) hb5 fun w24 hc24 k24 => ⟨_, _, _, rfl, ?_⟩
      have rsp : Rd w24 (some ⟨b5, 0, none⟩) (bvs spare) := fun i v hv => ⟨b5, 0, rfl, by rw [hc24, Nat.zero_add, ← Array.getElem?_toList]; exact hv⟩
      have k1724 : Kp no w17 w24 := (k23.trans k24 (fun _ _ h => h) fun k hk hh => by omega)
      have r1 : Rd w24 (some ⟨b2, 0, none⟩) (bvs spare) := by
        have := (hsp17.kp0 k1724).rd.take 5
        exact this
      refine same_c (x := spare) (y := spare) r1 rfl (fun h => by cases h) rsp rfl (fun h => by cases h) ⟨_, rfl, cond_t (by decide) ?_⟩
      have f24 : Fro (fun _ => True) w17 ow14 w24 ow14 := ⟨k1724.of_no, fun _ _ _ => rfl⟩
      have hS24 := hS17.fr f24 (fun _ _ => trivial)
      have hold24 := hold17.fr f24 trivial
      refine ⟨⟨by omega, by omega⟩, trivial, ?_⟩
      have both := @sums_both w24 ow14 ao' co' al cl E' [.slice (some ⟨b2, 0, none⟩) 5 c2] (fun n5 n6 w27 => R (.returned (.bool (n5 == n6))) w27) (PanF R) (hnib.kp0 hold24.kp) hS24 (by omega) fun x => by
        have : (x == x) = true := by simp
        rw [this]
        exact h _ hold24.kp
      rw [hEl] at both
      exact both
end Go.Proofs.YtplfoedgekdjgaaDoor
