/- The contract of 'keep' of the statements' book of layer 2. Conditions: up to a thousand entries. -/
import Derived.Test.YtplfoedgekdjgaaDoorHe
set_option linter.unusedVariables false
set_option linter.unusedSimpArgs false
namespace Go.Proofs.YtplfoedgekdjgaaDoor
open Go Go.RowKit

open Classical in
noncomputable def retag (ow : Nat → Nat) (n ta : Nat) (A B : Nat → Prop) : Nat → Nat :=
  fun k => if k < n then (if ow k = ta then 12 else ow k) else if A k then 10 else if B k then 11 else 12

theorem take_set_snoc {X : List UInt8} {i : Nat} {v : UInt8} (h : i < X.length) : (X.set i v).take (i + 1) = X.take i ++ [v] := by
  rw [take_snoc_get _ i (by rw [List.length_set]; exact h), List.take_set_of_le (Nat.le_refl _)]
  congr 1
  simp

theorem keep_c {w : World} {ow : Nat → Nat} {tb n ta : Nat} {cs : Array Value} {T : TypeId} {l m : Value} {a : Option Addr} {len c : Nat} {X : List UInt8} {R : Ending → World → Prop}
    (hblk : Blk w tb cs T) (hcs : cs.size = 10) (h8 : cs[8]? = some l) (h9 : cs[9]? = some m) (hB : BkI w ow n l m) (hn : n ≤ 1000) (htb : ow tb = 1)
    (hx : Sl w T_uint8 1 a len c (bvs X)) (hlen : len ≤ 100000) (tx : Tg ow ta (Is a)) (hta : 13 ≤ ta)
    (h : ∀ w' ow' l' m', Blk w' tb ((cs.setIfInBounds 8 l').setIfInBounds 9 m') T → BkI w' ow' (n + 1) l' m' → Fro (fun t => t ≠ 1 ∧ t ≠ 10 ∧ t ≠ 11 ∧ t ≠ ta) w ow w' ow' → ow' tb = 1 → R (.returned (.tuple #[])) w') :
    GoC Tryd.prog F_law02_Book_keep #[.pointer (some (Addr.add ⟨tb, 0, none⟩ 8)), .slice a len c] w R := by
  rw [add_at]
  refine S_law02_Book_keep ?_
  unfold W_law02_Book_keep
  obtain ⟨la, lc, ma, mc, E, rfl, rfl, hnE, sl, sm, t1, t2, hE⟩ := hB
  have hXl : X.length = len := by rw [← bvs_len]; exact hx.len
  have hblt := hblk.lt
  have nA : ¬ Is a tb := fun hh => by have := tx _ hh; omega
  have nL : ¬ Is la tb := fun hh => by have := t1 _ hh; omega
  have nM : ¬ Is ma tb := fun hh => by have := t2 _ hh; omega
  have nAL : ∀ k, Is a k → ¬ Is la k := fun k h1 h2 => by have := tx _ h1; have := t1 _ h2; omega
  have nAM : ∀ k, Is a k → ¬ Is ma k := fun k h1 h2 => by have := tx _ h1; have := t2 _ h2; omega
  have nLM : ∀ k, Is la k → ¬ Is ma k := fun k h1 h2 => by have := t1 _ h1; have := t2 _ h2; omega
  refine ⟨la, E.length, lc, by rw [hblk.cell]; exact h8, ?_⟩
  refine mark_c (by omega) ⟨_, rfl, ?_⟩
  generalize hv : UInt8.ofNat (7 * E.length + 1) = v
  refine loopN (fun s w' => ∃ (i : Nat) (X' : List UInt8), i ≤ len ∧ s.1 = (i : Int) ∧ Sl w' T_uint8 1 a len c (bvs X') ∧ X'.take i = List.replicate i v ∧ Kp (Is a) w w') (fun s _ => len - s.1.toNat) ⟨0, X, Nat.zero_le _, rfl, hx, by simp, Kp.refl _ _⟩ ?_
  rintro ⟨i0, u⟩ w2 ⟨i, X', hi, hi0, hx2, htk, k2⟩ _
  dsimp only at hi0 ⊢
  subst hi0
  have hX'l : X'.length = len := by rw [← bvs_len]; exact hx2.len
  refine cond_d (fun hlt => ?_) (fun hge => ?_)
  · obtain ⟨b, cur, ha, _⟩ := hx2.addr (by omega)
    have hwi : IntKind.wrap .i64 ((i : Int) + 1) = ((i + 1 : Nat) : Int) := by rw [wrap_i64 (by omega) (by omega)]; omega
    rw [hwi]
    refine ⟨by omega, hlt, _, ha, ?_⟩
    dsimp only
    rw [Int.toNat_natCast, add_at]
    refine hx2.put (by omega) ha fun w3 hx3 k3 _ => ⟨⟨i + 1, X'.set i v, by omega, rfl, ?_, ?_, k2.trans0 k3⟩, by simp only [Int.toNat_natCast]; omega⟩
    · rw [bvs, List.map_set]; exact hx3
    · rw [take_set_snoc (by omega), htk, List.replicate_succ']
  have hie : i = len := by omega
  subst hie
  rw [List.take_of_length_le (by omega)] at htk
  subst htk
  have hblk2 := k2.blk hblk nA
  have sl2 := sl.kp k2 fun k h1 h2 => nAL k h2 h1
  have sm2 := sm.kp k2 fun k h1 h2 => nAM k h2 h1
  refine ⟨la, E.length, lc, by rw [hblk2.cell]; exact h8, ?_⟩
  refine push_own er_sl sl2 (v := .slice a i c) rfl (by omega) (by omega) fun la' lc' w5 sl5 k5 hi5 => ?_
  have hblk5 := k5.blk hblk2 nL
  have s2 := k2.size
  have s5 := k5.size
  have sl5lt := sl5.lt
  refine NilF.intro rfl (StF.intro (o := 0 + 8) hblk5 (by omega) fun w6 hb6 k6 s6 => ?_)
  rw [Nat.zero_add] at hb6
  have nL' : ¬ Is la' tb := fun hh => by rcases hi5 _ hh with h1 | h1; exact nL h1; omega
  have sl6 := sl5.kp k6 fun k h1 h2 => by subst h2; exact nL' h1
  have sm6 := (sm2.kp k5 fun k h1 h2 => nLM k h2 h1).kp k6 fun k h1 h2 => by subst h2; exact nM h1
  have hx6 := (hx2.kp k5 fun k h1 h2 => nAL k h1 h2).kp k6 fun k h1 h2 => by subst h2; exact nA h1
  have cells9 : (cs.setIfInBounds 8 (.slice la' (E.length + 1) lc'))[9]? = some (.slice ma E.length mc) := by rw [Array.getElem?_setIfInBounds_ne (by omega)]; exact h9
  have ld : ∀ wz, Kp (Is a) w6 wz → wz.cell? (Addr.add ⟨tb, 0 + 8, none⟩ 1) = some (.slice ma E.length mc) := fun wz kk => by rw [add_at, (kk.blk hb6 nA).cell]; exact cells9
  -- what the bytes' growing leaves
  let Q : Option Addr → Nat → World → Prop := fun a6 c6 wz => Sl wz T_uint8 1 a6 (i + 1) c6 (bvs (List.replicate (i + 1) v)) ∧ Rd wz a (bvs (List.replicate i v)) ∧ Kp (Is a) w6 wz ∧ ∀ k, Is a6 k → Is a k ∨ w6.heap.size ≤ k
  have Qkp : ∀ {a6 c6 wz wy}, Q a6 c6 wz → Kp no wz wy → Q a6 c6 wy := fun hq kk => ⟨hq.1.kp0 kk, hq.2.1.kp0 kk, hq.2.2.1.trans0 kk.of_no, hq.2.2.2⟩
  have appA : ∀ wz b (K : Value → World → Prop), Kp no w6 wz → Blk wz b #[bv v] T_uint8 → (∀ a6 c6 wy, Q a6 c6 wy → K (.slice a6 (i + 1) c6) wy) →
      RunF Tryd.prog (Builtin.append_ #[T_s_uint8, T_s_uint8] T_s_uint8 #[.slice a i c, .slice (some ⟨b, 0, none⟩) 1 1]) wz K := by
    intro wz b K kz hbz hK
    refine append_own er_u8 (hx6.kp0 kz) (rd_lits (l := [v]) hbz rfl) rfl (fun h => by cases h) bvs_one (by omega) (by omega) fun a6 c6 wy hs6 ky hi6 hroom hgrow => hK a6 c6 wy ⟨?_, ?_, kz.of_no.trans0 ky, fun k hk => ?_⟩
    · rw [List.replicate_succ', bvs_app]; exact hs6
    · by_cases hr : i + 1 ≤ c
      · obtain ⟨rfl, rfl⟩ := hroom hr
        have := hs6.rd.take i
        rw [List.take_append_of_le_length (by rw [bvs_len, List.length_replicate]; omega), List.take_of_length_le (by rw [bvs_len, List.length_replicate]; omega)] at this
        exact this
      · exact ((hx6.kp0 kz).rd).kp0 (hgrow (by omega)).2
    · rcases hi6 k hk with h1 | h1
      · exact .inl h1
      · have := kz.size; exact .inr (by omega)
  have appM : ∀ wz a6 c6 b, Q a6 c6 wz → Blk wz b #[.slice a6 (i + 1) c6] T_s_uint8 →
      RunF Tryd.prog (Builtin.append_ #[T_s_s_uint8, T_s_s_uint8] T_s_s_uint8 #[.slice ma E.length mc, .slice (some ⟨b, 0, none⟩) 1 1]) wz fun r w10 => ∃ (a7 : Option Addr) (l7 c7 : Nat), r = .slice a7 l7 c7 ∧
        StF w10 (Addr.add ⟨tb, 0 + 8, none⟩ 1) (.slice a7 l7 c7) fun w11 => R (.returned (.tuple #[])) w11 := by
    intro wz a6 c6 b hq hbz
    obtain ⟨q1, q2, q3, q4⟩ := hq
    have smz := sm6.kp q3 fun k h1 h2 => nAM k h2 h1
    have hnews : Rd wz (some ⟨b, 0, none⟩) [Value.slice a6 (i + 1) c6] := Rd.of_blk hbz fun j u hu => by rw [Nat.zero_add, ← Array.getElem?_toList]; exact hu
    refine append_own er_sl smz hnews rfl (fun h => by cases h) (fun u hu => by rw [List.mem_singleton] at hu; subst hu; rfl) (by omega) (by omega) fun a7 c7 w10 sm10 k10 hi10 _ _ => ⟨a7, _, c7, rfl, ?_⟩
    have sz := q3.size
    have s10 := k10.size
    have hb10 := k10.blk (q3.blk hb6 nA) nM
    rw [add_at]
    refine StF.intro (o := 0 + 8 + 1) hb10 (by simp only [Array.size_setIfInBounds]; omega) fun w11 hb11 k11 s11 => ?_
    have hbe : 0 + (0 + 8 + 1) = 9 := rfl
    have n7 : ¬ Is a7 tb := fun hh => by
      rcases hi10 _ hh with h1 | h1
      · exact nM h1
      · have := k2.size; omega
    have q1lt := q1.lt
    have n6 : ∀ k, Is a6 k → k ≠ tb := fun k hk hh => by
      subst hh
      rcases q4 _ hk with h1 | h1
      · exact nA h1
      · omega
    have nq4M : ∀ k, Is a6 k → ¬ Is ma k := fun k hk hh => by
      have := sm.lt k hh
      rcases q4 k hk with h1 | h1
      · exact nAM k h1 hh
      · omega
    have sl10 := (sl6.kp q3 fun k h1 h2 => by
      rcases hi5 k h1 with h3 | h3
      · exact nAL k h2 h3
      · have := hx.lt k h2; omega).kp k10 fun k h1 h2 => by
      rcases hi5 k h1 with h3 | h3
      · exact nLM k h3 h2
      · have := sm.lt k h2; omega
    have sl11 := sl10.kp k11 fun k h1 h2 => by subst h2; exact nL' h1
    have sm11 := sm10.kp k11 fun k h1 h2 => by subst h2; exact n7 h1
    have a11 : Rd w11 a (bvs (List.replicate i v)) := (q2.kp k10 fun k h1 h2 => nAM k h1 h2).kp k11 fun k h1 h2 => by subst h2; exact nA h1
    have a611 : Rd w11 a6 (bvs (List.replicate (i + 1) v)) := (q1.rd.kp k10 fun k h1 h2 => nq4M k h1 h2).kp k11 fun k h1 h2 => n6 k h1 h2
    have old : ∀ {k}, k < w.heap.size → ow k ≠ ta → retag ow w.heap.size ta (Is la') (Is a7) k = ow k := fun {k} hk hne => by unfold retag; rw [if_pos hk, if_neg hne]
    have oldA : ∀ {k}, Is a k → retag ow w.heap.size ta (Is la') (Is a7) k = 12 := fun {k} hk => by unfold retag; rw [if_pos (hx.lt k hk), if_pos (tx k hk)]
    have kAll : Kp (fun k => Is a k ∨ Is la k ∨ Is ma k ∨ k = tb) w w11 := by
      exact (((((k2.mono fun k _ h => .inl h).trans0 (k5.mono fun k _ h => .inr (.inl h))).trans0 (k6.mono fun k _ h => .inr (.inr (.inr h)))).trans0 (q3.mono fun k _ h => .inl h)).trans0 (k10.mono fun k _ h => .inr (.inr (.inl h)))).trans0 (k11.mono fun k _ h => .inr (.inr (.inr h)))
    have fro : Fro (fun t => t ≠ 1 ∧ t ≠ 10 ∧ t ≠ 11 ∧ t ≠ ta) w ow w11 (retag ow w.heap.size ta (Is la') (Is a7)) := by
      refine ⟨kAll.mono fun k _ hk ht => ?_, fun k hk ht => old hk ht.2.2.2⟩
      rcases hk with h1 | h1 | h1 | h1
      · exact ht.2.2.2 (tx k h1)
      · exact ht.2.1 (t1 k h1)
      · exact ht.2.2.1 (t2 k h1)
      · subst h1; exact ht.1 htb
    refine h w11 _ (.slice la' (E.length + 1) lc') (.slice a7 (E.length + 1) c7) hb11 ?_ fro (by rw [old hblt (by omega), htb])
    refine ⟨la', lc', a7, c7, E ++ [⟨a, i, c, a6, c6⟩], by simp, by simp, by simp; omega, by simpa using sl11, by simpa using sm11, ?_, ?_, ?_⟩
    · intro k hk
      rcases hi5 k hk with h1 | h1
      · have hlt := sl.lt k h1
        have := t1 k h1
        rw [old hlt (by omega), this]
      · unfold retag
        rw [if_neg (by omega), if_pos hk]
    · intro k hk
      rcases hi10 k hk with h1 | h1
      · have hlt := sm.lt k h1
        have := t2 k h1
        rw [old hlt (by omega), this]
      · unfold retag
        rw [if_neg (by omega), if_neg (fun hh => by have := sl5lt k hh; omega), if_pos hk]
    · intro k hk
      by_cases hkE : k < E.length
      · rw [List.getElem_append_left hkE]
        obtain ⟨f1, f2, f3⟩ := hE k hkE
        exact ⟨f1.fr fro (by omega), f2.fr fro (by omega), f3⟩
      · have hke : k = E.length := by simp at hk; omega
        subst hke
        rw [List.getElem_append_right (Nat.le_refl _)]
        simp only [Nat.sub_self, List.getElem_cons_zero]
        have hmk : mkU E.length = v := hv
        rw [hmk]
        refine ⟨fun j hj => ?_, fun j hj => ?_, hlen⟩
        · obtain ⟨b', o', ha', hc'⟩ := a11 j (bv v) (by simp [bvs, hj])
          exact ⟨b', o', ha', hc', oldA ⟨_, ha', rfl⟩⟩
        · obtain ⟨b', o', ha', hc'⟩ := a611 j (bv v) (by simp [bvs, hj])
          refine ⟨b', o', ha', hc', ?_⟩
          have hib : Is a6 b' := ⟨_, ha', rfl⟩
          rcases q4 b' hib with h1 | h1
          · exact oldA h1
          · have hl6 := q1lt b' hib
            unfold retag
            rw [if_neg (by omega), if_neg (fun hh => by have := sl5lt b' hh; omega), if_neg (fun hh => by
              rcases hi10 b' hh with h2 | h2
              · exact nq4M b' hib h2
              · omega)]
  have kd : Kp no w6 w6.drew := Kp.drew w6 1
  refine ⟨⟨ma, E.length, mc, ld _ kd.of_no, ?_⟩, ?_⟩
  · refine AlF.intro fun b w7 _ hb7 k7 _ => ?_
    refine appA w7 b _ (kd.trans0 k7) hb7 fun a6 c6 wy hq => ⟨a6, _, c6, rfl, ?_⟩
    exact AlF.intro fun b3 w9 _ hb9 k9 _ => appM w9 a6 c6 b3 (Qkp hq k9) hb9
  · refine AlF.intro fun b w7 _ hb7 k7 _ => ⟨⟨ma, E.length, mc, ld _ (kd.trans0 k7).of_no, ?_⟩, ?_⟩
    · refine appA w7 b _ (kd.trans0 k7) hb7 fun a6 c6 wy hq => ⟨a6, _, c6, rfl, ?_⟩
      exact AlF.intro fun b3 w9 _ hb9 k9 _ => appM w9 a6 c6 b3 (Qkp hq k9) hb9
    · refine appA w7 b _ (kd.trans0 k7) hb7 fun a6 c6 wy hq => ⟨a6, _, c6, rfl, ⟨ma, E.length, mc, ld _ hq.2.2.1, ?_⟩, ?_⟩
      · exact AlF.intro fun b3 w9 _ hb9 k9 _ => appM w9 a6 c6 b3 (Qkp hq k9) hb9
      · exact AlF.intro fun b3 w9 _ hb9 k9 _ => ⟨ma, E.length, mc, ld _ (Qkp hq k9).2.2.1, appM w9 a6 c6 b3 (Qkp hq k9) hb9⟩
end Go.Proofs.YtplfoedgekdjgaaDoor
