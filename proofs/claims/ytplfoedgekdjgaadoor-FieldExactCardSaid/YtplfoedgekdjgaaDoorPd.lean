/- The statement FieldOneForm, walked: it answers true. Conditions: the checksum's table stands. -/
import Derived.Test.YtplfoedgekdjgaaDoorPc
set_option linter.unusedVariables false
set_option linter.unusedSimpArgs false
namespace Go.Proofs.YtplfoedgekdjgaaDoor
open Go Go.RowKit

theorem zig_unzig (n : Nat) : zig (unzig n) = n := by
  unfold unzig
  split
  · unfold zig
    rw [if_pos (by omega)]
    omega
  · unfold zig
    rw [if_neg (by omega)]
    omega
theorem unzig_bd {n : Nat} (h : n < 18446744073709551616) : -9223372036854775808 ≤ unzig n ∧ unzig n ≤ 9223372036854775807 := by
  unfold unzig
  split <;> omega

theorem rd_lent {w : World} {b l : Nat} {cur : Array Value} {T : TypeId} {A : List UInt8} (hblk : Blk w b cur T) (hl : A.length = l) (htk : cur.toList.take (l + 3) = bvs (A ++ marks)) : Rd w (some ⟨b, 0, none⟩) (bvs A) := by
  refine Rd.of_blk hblk fun i v hv => ?_
  have hi : i < A.length := by
    have := (List.getElem?_eq_some_iff.1 hv).1
    rwa [bvs_len] at this
  have h1 : (bvs (A ++ marks))[i]? = some v := by rw [bvs_app, List.getElem?_append_left (by rw [bvs_len]; exact hi)]; exact hv
  rw [← htk, List.getElem?_take_of_lt (by omega)] at h1
  rw [Nat.zero_add, ← Array.getElem?_toList]
  exact h1

/-- A reader and a writer that stand apart, neither among the old blocks: what was read so far is what was written. -/
def Mid (w1 : World) (Br : Nat) (gr : Option Addr) (Bw : Nat) (A : List UInt8) (w' : World) : Prop :=
  ∃ pos gw, Re w' Br gr A pos 0 ∧ Wr w' Bw gw (A.take pos) ∧ (∀ k, fpW Br gr k → ¬ fpW Bw gw k) ∧ (∀ k, fpW Bw gw k → w1.heap.size ≤ k) ∧ Kp no w1 w'

theorem fieldOneForm_c {w : World} {a1 a2 : Option Addr} {l1 c1 l2 c2 : Nat} {A0 : List UInt8} {S : List Bool} {R : Ending → World → Prop} (hnib : Nib w)
    (hA : Rd w a1 (bvs A0)) (hAl : A0.length = l1) (hAc : l1 ≤ c1) (hA0 : a1 = none → l1 = 0) (hS : Rd w a2 (S.map Value.bool)) (hSl : S.length = l2)
    (h : ∀ w', Kp no w w' → R (.returned (.bool true)) w') : GoC Tryd.prog F_law02_FieldOneForm #[.slice a1 l1 c1, .slice a2 l2 c2] w R := by
  refine S_law02_FieldOneForm ?_
  unfold W_law02_FieldOneForm
  refine awake_c hnib fun w1 k1 => ⟨_, rfl, cond_f rfl ?_⟩
  refine cut_c hAc ⟨a1, _, c1, rfl, ?_⟩
  have hA1 : Rd w1 a1 (bvs (A0.take 4000)) := by rw [bvs, List.map_take]; exact (hA.kp0 k1).take 4000
  have hS1 := hS.kp0 k1
  have hla : (A0.take 4000).length = min l1 4000 := by rw [List.length_take]; omega
  have hA0' : a1 = none → min l1 4000 = 0 := fun h => by have := hA0 h; omega
  have hl4 : min l1 4000 ≤ 4000 := by omega
  generalize A0.take 4000 = A at *
  generalize min l1 4000 = la at *
  refine lent_c hA1 hla hA0' (by omega) fun b cur c' w2 hblk hcs hcap htk k2 hfb => ⟨_, _, _, rfl, ?_⟩
  refine newReader_c (rd_lent hblk hla htk) hla (fun h => by cases h) (by omega) fun Br gr w3 hr3 k3 hBr hfr => ⟨_, rfl, ?_⟩
  refine newWriter_c fun Bw w4 hw4 k4 hBw => ⟨_, rfl, cond_f rfl (cond_f rfl ?_)⟩
  have s2 := k2.size
  have s3 := k3.size
  have k14 : Kp no w1 w4 := (k2.trans0 k3).trans0 k4
  have fr : ∀ k, fpW Br gr k → w1.heap.size ≤ k := by
    rintro k (rfl | hk)
    · omega
    · have := hfr k hk; omega
  refine ⟨fun _ w' => Mid w1 Br gr Bw A w', ?_, ?_⟩
  · refine loopN (fun s w' => (∃ i : Nat, s.1 = (i : Int)) ∧ Mid w1 Br gr Bw A w') (fun s _ => la - s.1.toNat) ⟨⟨0, rfl⟩, 0, none, hr3.kp0 k4, by rw [List.take_zero]; exact hw4, ?_, ?_, k14⟩ ?_
    · rintro k hk (rfl | hh)
      · have := hr3.lt _ hk; omega
      · exact not_is_none hh
    · rintro k (rfl | hh)
      · have := k3.size; omega
      · exact (not_is_none hh).elim
    rintro ⟨i0, u⟩ w6 ⟨⟨i, hi⟩, hmid⟩ _
    dsimp only at hi ⊢
    subst hi
    refine cond_d (fun hlt1 => cond_d (fun hlt2 => ?_) fun _ => hmid) fun _ => hmid
    obtain ⟨pos, gw, hr6, hw6, D, fw, k6⟩ := hmid
    have hpos := hr6.le
    have hwl : (A.take pos).length = pos := by rw [List.length_take]; omega
    have hiS : i < S.length := by omega
    have hn := rdU_lt A (pos, 0) 18446744073709551615
    refine ⟨fun _ w' => Re w' Br gr A (rdU A (pos, 0) 18446744073709551615).2.1 (rdU A (pos, 0) 18446744073709551615).2.2 ∧
      ∃ gw', Wr w' Bw gw' (A.take pos ++ vform (rdU A (pos, 0) 18446744073709551615).1) ∧ (∀ k, fpW Br gr k → ¬ fpW Bw gw' k) ∧ (∀ k, fpW Bw gw' k → w1.heap.size ≤ k) ∧ Kp no w1 w', ?_, ?_⟩
    · refine (hS1.kp0 k6).idx (by omega) hlt2 (by rw [List.length_map]; omega) fun b1 o1 hg1 hc1 => ?_
      refine ⟨S[i], by rw [Int.toNat_natCast, add_at]; exact hc1 i _ (by rw [List.getElem?_map, List.getElem?_eq_getElem hiS]; rfl), ?_⟩
      have step : ∀ w7, Re w7 Br gr A (rdU A (pos, 0) 18446744073709551615).2.1 (rdU A (pos, 0) 18446744073709551615).2.2 → Kp (fun k => k = Br) w6 w7 →
          Wr w7 Bw gw (A.take pos) ∧ ∀ gw' w8, Wr w8 Bw gw' (A.take pos ++ vform (rdU A (pos, 0) 18446744073709551615).1) → Kp (fpW Bw gw) w7 w8 → (∀ k, Is gw' k → Is gw k ∨ w7.heap.size ≤ k) →
          Re w8 Br gr A (rdU A (pos, 0) 18446744073709551615).2.1 (rdU A (pos, 0) 18446744073709551615).2.2 ∧
          ∃ gw', Wr w8 Bw gw' (A.take pos ++ vform (rdU A (pos, 0) 18446744073709551615).1) ∧ (∀ k, fpW Br gr k → ¬ fpW Bw gw' k) ∧ (∀ k, fpW Bw gw' k → w1.heap.size ≤ k) ∧ Kp no w1 w8 := by
        intro w7 hr7 k7
        refine ⟨hw6.kp k7 fun k hk hh => D k (.inl hh) hk, fun gw' w8 hw8 k8 hi8 => ⟨hr7.kp k8 D, gw', hw8, disj_step hr7.lt D hi8, ?_, ?_⟩⟩
        · rintro k (rfl | hk)
          · exact fw _ (.inl rfl)
          · rcases hi8 k hk with hh | hh
            · exact fw k (.inr hh)
            · have := k6.size; have := k7.size; omega
        · exact (k6.trans k7 (fun _ _ h => h) fun k hk hh => by have := fr k (.inl hh); omega).trans k8 (fun _ _ h => h) fun k hk hh => by have := fw k hh; omega
      refine cond_b (fun hq => ?_) (fun hq => ?_)
      · refine reader_S (st := (pos, 0)) hr6 (by omega) fun w7 hr7 k7 => ⟨_, rfl, ?_⟩
        obtain ⟨h1, h2⟩ := step w7 hr7 k7
        have hb := unzig_bd hn
        refine writer_S h1 hb.1 hb.2 (by omega) fun gw' w8 hw8 k8 hi8 => ⟨rfl, ?_⟩
        rw [zig_unzig] at hw8
        exact h2 gw' w8 hw8 k8 hi8
      · refine reader_U (st := (pos, 0)) (m := 18446744073709551615) hr6 (by omega) fun w7 hr7 k7 => ⟨_, rfl, ?_⟩
        obtain ⟨h1, h2⟩ := step w7 hr7 k7
        refine writer_U h1 hn (by omega) fun gw' w8 hw8 k8 hi8 => ⟨rfl, h2 gw' w8 hw8 k8 hi8⟩
    · rintro u14 w8 ⟨hr8, gw', hw8, D8, fw8, k8⟩ _
      refine reader_Fault (st := (rdU A (pos, 0) 18446744073709551615).2) hr8 fun w9 k9 => ⟨_, _, rfl, ?_⟩
      refine num_c ⟨_, rfl, ?_⟩
      have k9' := k8.trans0 k9
      refine cond_ne (fun _ => h _ (k1.trans0 k9')) (fun he => ?_)
      have he0 : (rdU A (pos, 0) 18446744073709551615).2.2 = 0 := by omega
      have hwi : IntKind.wrap .i64 ((i : Int) + 1) = ((i + 1 : Nat) : Int) := by rw [wrap_i64 (by omega) (by omega)]; omega
      rw [hwi]
      refine ⟨⟨⟨i + 1, rfl⟩, (rdU A (pos, 0) 18446744073709551615).2.1, gw', ?_, ?_, D8, fw8, k9'⟩, by simp only [Int.toNat_natCast]; omega⟩
      · rw [he0] at hr8
        exact hr8.kp0 k9
      · have hw9 := hw8.kp0 k9
        have hform : A.take pos ++ vform (rdU A (pos, 0) 18446744073709551615).1 = A.take (rdU A (pos, 0) 18446744073709551615).2.1 := by
          unfold rdU at he0 ⊢
          rw [if_pos rfl] at he0 ⊢
          dsimp only at he0 ⊢
          by_cases hp : (parse (A.drop pos)).2.2 = 0
          · rw [if_pos hp] at he0 ⊢
            by_cases hm : 18446744073709551615 < (parse (A.drop pos)).1
            · rw [if_pos hm] at he0; cases he0
            · rw [if_neg hm]
              dsimp only
              rw [parse_one hp, List.take_add]
          · rw [if_neg hp] at he0
            exact absurd he0 hp
        rw [← hform]
        exact hw9
  · rintro u17 w14 ⟨pos, gw, hr14, hw14, D, fw, k14'⟩ _
    have hpos := hr14.le
    refine reader_End (st := (pos, 0)) hr14 fun w15 hr15 k15 => ⟨rfl, ?_⟩
    dsimp only at hr15
    refine reader_Fault (st := (pos, if 0 = 0 ∧ pos < A.length then 21 else 0)) hr15 fun w16 k16 => ⟨_, _, rfl, ?_⟩
    have k15' : Kp no w1 w15 := k14'.trans k15 (fun _ _ h => h) fun k hk hh => by have := fr k (.inl hh); omega
    refine num_c ⟨_, rfl, ?_⟩
    by_cases hp : pos < A.length
    · refine cond_t (by simp [hp]) (h _ ((k1.trans0 k15').trans0 k16))
    · refine cond_f (by simp [hp]) ?_
      have hpe : pos = A.length := by omega
      have hw15 : Wr w15 Bw gw (A.take pos) := hw14.kp k15 fun k hk hh => D k (.inl hh) hk
      rw [hpe, List.take_length] at hw15
      refine writer_Out (hw15.kp0 k16) (by omega) fun a18 c18 w18 hs18 k18 hf18 => ⟨_, _, _, rfl, ?_⟩
      have k18' := (k15'.trans0 k16).trans0 k18
      refine same_c hs18.rd rfl (fun hh => by subst hh; exact hs18.zero.1) (hA1.kp0 k18') hla hA0' ⟨_, rfl, ?_⟩
      have : (A == A) = true := by simp
      rw [this]
      exact h _ (k1.trans0 k18')
end Go.Proofs.YtplfoedgekdjgaaDoor
