/- The contract of the package record's Encode. Conditions: none. -/
import Derived.Test.YtjhncijdkmbopaaRh
set_option linter.unusedVariables false
set_option linter.unusedSimpArgs false
namespace Go.Proofs.Ytjhncijdkmbopaa
open Go Go.RowKit

theorem u64_toNat {x : Int} (h0 : 0 ≤ x) (h1 : x ≤ 2147483648) : IntKind.wrap .u64 x = (x.toNat : Int) := by rw [wrap_u64 h0 (by omega)]; omega
theorem wk1 {k n : Nat} (h : k < n) (hn : n ≤ 100000) : IntKind.wrap .i64 ((k : Int) + 1) = ((k + 1 : Nat) : Int) := by rw [wrap_i64 (by omega) (by omega)]; omega

theorem encode_c {w : World} {r : RV} {m : Mm} {R : Ending → World → Prop} (hi : LiIn w m r.live r.dirty) (h64 : r.w64)
    (hbad : chkN r ≠ 0 → ∀ w', Kp no w w' → R (.returned (.tuple #[.slice none 0 0, .int .i64 (chkN r : Int)])) w')
    (hok : chkN r = 0 → ∀ a c w', Kp no w w' → Sl w' T_uint8 1 a (encB r).length c (bvs (encB r)) → Fresh w a → R (.returned (.tuple #[.slice a (encB r).length c, .int .i64 0])) w') : GoC Try.prog F_record_Encode #[.agg (r.ca m)] w R := by
  refine S_record_Encode ?_
  unfold W_record_Encode
  refine Loc.al (Kp.refl _ w) fun b1 w1 h1 k1 g1 => ?_
  have h1 : Loc w w1 b1 (r.ca m) T_api_Record := h1
  refine rec_rd h1.blk (check_c (r := r) (m := m) (hi.kp0 h1.kp) fun w2 k2 => ⟨_, rfl, cond_ne (fun hc => ?_) (fun hc => ?_)⟩)
  · exact hbad (by omega) w2 (h1.kp.trans0 k2)
  have hc0 : chkN r = 0 := by omega
  obtain ⟨hk1, hk8, _⟩ := chk_kind hc0
  have hints := ok_ints hc0
  have hsg := sgn_64 h64
  refine newWriter_c fun B w3 hw3 k3 hB => ⟨_, rfl, ?_⟩
  have k13 : Kp no w1 w3 := k2.trans0 k3
  refine ⟨_, (h1.kp' k13).at rfl rfl, ?_⟩
  have hB1 : w1.heap.size ≤ B := by have := k2.size; omega
  have hW3 := WrS.init hw3
  refine hW3.U (u64_toNat (by omega) (by omega)) (by omega) (by simp) fun g4 w4 hW4 => ⟨rfl, ?_⟩
  have k14 : Kp no w1 w4 := hW4.old k13 hB1 fun k hk => (is_none hk).elim
  have hf4 : Fresh w1 g4 := fun k hk => by
    rcases hW4.nw k hk with hh | hh
    · exact (is_none hh).elim
    · have := k13.size; omega
  rw [List.nil_append] at hW4
  have l4 := vlen31 (n := r.kind.toNat) (by omega)
  refine fields_c (r := r) (m := m) (h1.kp' k14).blk hk1 hk8 fun a5 c5 a6 c6 w5 k5 hr5 hr6 hf5 hf6 => ⟨_, _, _, _, _, _, rfl, ?_⟩
  have k15 : Kp no w1 w5 := k14.trans0 k5
  have hW5 : WrS w5 B g4 w5 g4 (vform r.kind.toNat) := WrS.init (hW4.wr.kp0 k5)
  have hlt4 := hW4.wr.lt
  have ap : ∀ a, Fresh w4 a → ∀ b, Is a b → ¬ fpW B g4 b := fun a hf b hb hh => by
    have := hf b hb
    have := hlt4 b hh
    omega
  have il := iof_len r.kind
  have sl := sof_len r.kind
  refine loopN (fun s w6 => ∃ k : Nat, k ≤ (iof r.kind).length ∧ s.1 = (k : Int) ∧ ∃ g, WrS w5 B g4 w6 g (vform r.kind.toNat ++ ((iof r.kind).take k).flatMap (intB r))) (fun s _ => (iof r.kind).length - s.1.toNat) ⟨0, Nat.zero_le _, rfl, g4, by simpa using hW5⟩ ?_
  rintro ⟨k0, u⟩ w6 ⟨k, hk, hk0, g, hW⟩ _
  dsimp only at hk0 ⊢
  subst hk0
  refine cond_d (fun hlt => ?_) (fun hge => ?_)
  · have hkl : k < (iof r.kind).length := by omega
    have hmem := List.getElem_mem hkl
    refine (hr5.kp hW.kp (ap a5 hf5)).idx (by omega) hlt (by simp) fun b o ha hcl => ?_
    refine ⟨some ⟨b1, (iof r.kind)[k], none⟩, by rw [Int.toNat_natCast, add_at]; exact hcl k _ (by simp [hkl, pv]), NilF.intro rfl ?_⟩
    refine ⟨_, (h1.kp' (hW.old k15 hB1 hf4)).at rfl (gi_cell r m (iof_plc _ _ hmem)), ?_⟩
    obtain ⟨hi0, hi1, _⟩ := hints _ hmem
    refine hW.U (u64_toNat hi0 hi1) (by omega) ?_ fun g' w' hW' => ⟨rfl, ?_⟩
    · have := flat_len (f := intB r) (n := 10) (L := (iof r.kind).take k) fun x hx => vlen31 (by have := hints x (List.mem_of_mem_take hx); omega)
      rw [List.length_append]
      rw [List.length_take] at this
      omega
    · rw [wk1 hkl (by omega)]
      refine ⟨⟨k + 1, by omega, rfl, g', ?_⟩, by simp only [Int.toNat_natCast]; omega⟩
      rw [flat_snoc hkl, ← List.append_assoc]
      exact hW'
  have hke : k = (iof r.kind).length := by omega
  subst hke
  rw [List.take_length] at hW
  have l6 := flat_len (f := intB r) (n := 10) (L := iof r.kind) fun x hx => vlen31 (by have := hints x hx; omega)
  refine loopN (fun s w8 => ∃ k : Nat, k ≤ (sof r.kind).length ∧ s.1 = (k : Int) ∧ ∃ g, WrS w5 B g4 w8 g ((vform r.kind.toNat ++ (iof r.kind).flatMap (intB r)) ++ ((sof r.kind).take k).flatMap (sgnB r))) (fun s _ => (sof r.kind).length - s.1.toNat) ⟨0, Nat.zero_le _, rfl, g, by simpa using hW⟩ ?_
  rintro ⟨k0, u⟩ w8 ⟨k, hk, hk0, g8, hW8⟩ _
  dsimp only at hk0 ⊢
  subst hk0
  refine cond_d (fun hlt => ?_) (fun hge => ?_)
  · have hkl : k < (sof r.kind).length := by omega
    have hmem := List.getElem_mem hkl
    refine (hr6.kp hW8.kp (ap a6 hf6)).idx (by omega) hlt (by simp) fun b o ha hcl => ?_
    refine ⟨some ⟨b1, (sof r.kind)[k], none⟩, by rw [Int.toNat_natCast, add_at]; exact hcl k _ (by simp [hkl, pv]), NilF.intro rfl ?_⟩
    refine ⟨_, (h1.kp' (hW8.old k15 hB1 hf4)).at rfl (gi_cell r m (sof_plc _ _ hmem)), ?_⟩
    have hz := hsg _ hmem
    refine hW8.S hz ?_ fun g' w' hW' => ⟨rfl, ?_⟩
    · have := flat_len (f := sgnB r) (n := 10) (L := (sof r.kind).take k) fun x hx => vform_len64 (zig_lt (hsg x (List.mem_of_mem_take hx)).1 (hsg x (List.mem_of_mem_take hx)).2)
      rw [List.length_append, List.length_append]
      rw [List.length_take] at this
      omega
    · rw [wk1 hkl (by omega)]
      refine ⟨⟨k + 1, by omega, rfl, g', ?_⟩, by simp only [Int.toNat_natCast]; omega⟩
      rw [flat_snoc hkl, ← List.append_assoc]
      exact hW'
  have hke : k = (sof r.kind).length := by omega
  subst hke
  rw [List.take_length] at hW8
  have l8 := flat_len (f := sgnB r) (n := 10) (L := sof r.kind) fun x hx => vform_len64 (zig_lt (hsg x hx).1 (hsg x hx).2)
  have henc : encB r = (vform r.kind.toNat ++ (iof r.kind).flatMap (intB r) ++ (sof r.kind).flatMap (sgnB r)) ++ tailB r := by unfold encB; simp only [List.append_assoc]
  generalize hpre : vform r.kind.toNat ++ (iof r.kind).flatMap (intB r) ++ (sof r.kind).flatMap (sgnB r) = pre at hW8 henc
  have lpre : pre.length ≤ 120 := by rw [← hpre]; simp only [List.length_append]; omega
  have box : ∀ {w' : World} {g' : Option Addr} {bs : List UInt8}, WrS w5 B g4 w' g' bs → Loc w w' b1 (r.ca m) T_api_Record := fun hh => h1.kp' (hh.old k15 hB1 hf4)
  have lis : ∀ {w' : World} {g' : Option Addr} {bs : List UInt8}, WrS w5 B g4 w' g' bs → LiIn w' m r.live r.dirty := fun hh => hi.kp0 (h1.kp.trans0 (hh.old k15 hB1 hf4))
  refine ⟨fun _ w' => ∃ g, WrS w5 B g4 w' g (encB r) ∧ (encB r).length ≤ 10000, ?_, ?_⟩
  · refine ⟨_, (box hW8).at rfl rfl, cond_eq (fun e8 => ?_) (fun n8 => ⟨g8, ?_⟩)⟩
    · obtain ⟨hl32, hd16, hL, hD⟩ := ok_lists hc0 e8
      have hll := hi.ll
      have hdl := hi.dl
      refine ⟨_, _, _, (box hW8).at rfl rfl, ?_⟩
      refine hW8.U (n := r.live.length) (by rw [u64_toNat (by omega) (by omega)]; omega) (by omega) (by omega) fun g10 w10 hW10 => ⟨rfl, ?_⟩
      refine ⟨_, _, _, (box hW10).at rfl rfl, ?_⟩
      have l10 := vlen31 (n := r.live.length) (by omega)
      have llv : ∀ x ∈ r.live, (lvB x).length ≤ 30 := fun x hx => by
        have hh := hL x hx
        have h1 := vlen31 (n := x.tx.toNat) (by omega)
        have h2 := vlen31 (n := x.last.toNat) (by omega)
        have h3 : (vform (stN x)).length ≤ 10 := vlen31 (by unfold stN; split <;> (try split) <;> omega)
        unfold lvB
        simp only [List.length_append]
        omega
      have ldv : ∀ x ∈ r.dirty, (dvB x).length ≤ 20 := fun x hx => by
        have hh := hD x hx
        have h1 := vlen31 (n := x.page.toNat) (by omega)
        have h2 := vlen31 (n := x.since.toNat) (by omega)
        unfold dvB
        simp only [List.length_append]
        omega
      refine loopN (fun s w11 => ∃ k : Nat, k ≤ r.live.length ∧ s.1 = (k : Int) ∧ ∃ g, WrS w5 B g4 w11 g ((pre ++ vform r.live.length) ++ (r.live.take k).flatMap lvB)) (fun s _ => r.live.length - s.1.toNat) ⟨0, Nat.zero_le _, rfl, g10, by simpa using hW10⟩ ?_
      rintro ⟨k0, u⟩ w11 ⟨k, hk, hk0, g11, hW11⟩ _
      dsimp only at hk0 ⊢
      subst hk0
      have lk : ((r.live.take k).flatMap lvB).length ≤ 960 := by
        have := flat_len (f := lvB) (n := 30) (L := r.live.take k) fun x hx => llv x (List.mem_of_mem_take hx)
        rw [List.length_take] at this
        omega
      refine cond_d (fun hlt => ?_) (fun hge => ?_)
      · have hkl : k < r.live.length := by omega
        have hx := hL _ (List.getElem_mem hkl)
        refine rd_el LV.csl (by omega) (lis hW11).l hkl hll fun b o ha hcl => ?_
        have cell : ∀ q v, (r.live[k]).cs[q]? = some v → w11.cell? (Addr.add ((⟨b, o, none⟩ : Addr).add (Int.toNat (k : Int) * 4)) q) = some v := fun q v hv => by
          rw [Int.toNat_natCast, add_at, add_at]; exact hcl q v hv
        have cell0 : w11.cell? ((⟨b, o, none⟩ : Addr).add (Int.toNat (k : Int) * 4)) = some (.int .i64 (r.live[k]).tx) := by
          rw [Int.toNat_natCast, add_at]; exact hcl 0 _ rfl
        refine ⟨_, _, _, _, ⟨cell0, cell 1 _ rfl, cell 2 _ rfl, cell 3 _ rfl, trivial⟩, ?_⟩
        refine lv_cp r.live[k] fun b2 w12 h12 => ?_
        have hW12 := hW11.kp0 h12.kp
        have q2 : ¬ fpW B g11 b2 := fun hh => by
          have := hW11.wr.lt b2 hh
          have := h12.nw
          omega
        have l11 : ((pre ++ vform r.live.length) ++ (r.live.take k).flatMap lvB).length ≤ 2000 := by simp only [List.length_append]; omega
        have hst : stN r.live[k] ≤ 2 := by unfold stN; split <;> (try split) <;> omega
        have v1 := vlen31 (n := (r.live[k]).tx.toNat) (by omega)
        have v2 := vlen31 (n := (r.live[k]).last.toNat) (by omega)
        -- the copy stays while the writer writes
        have hW12' : WrS w12 B g11 w12 g11 ((pre ++ vform r.live.length) ++ (r.live.take k).flatMap lvB) := WrS.init hW12.wr
        refine ⟨_, h12.at rfl rfl, ?_⟩
        refine hW12'.U (u64_toNat (by omega) (by omega)) (by omega) (by omega) fun g13 w13 hW13 => ⟨rfl, ?_⟩
        have b13 : Blk w13 b2 (r.live[k]).cs.toArray T_api_Live := hW13.kp.blk h12.blk q2
        refine ⟨_, b13.at rfl rfl, ?_⟩
        refine hW13.U (u64_toNat (by omega) (by omega)) (by omega) (by rw [List.length_append]; omega) fun g14 w14 hW14 => ⟨rfl, ?_⟩
        have b14 : Blk w14 b2 (r.live[k]).cs.toArray T_api_Live := hW14.kp.blk h12.blk q2
        refine ⟨_, _, _, _, ⟨b14.at rfl rfl, b14.at rfl rfl, b14.at rfl rfl, b14.at rfl rfl, trivial⟩, ?_⟩
        refine state_c (x := r.live[k]) fun w15 k15' => ⟨_, rfl, ?_⟩
        refine (hW14.kp0 k15').U rfl (by omega) (by rw [List.length_append, List.length_append]; omega) fun g16 w16 hW16 => ⟨rfl, ?_⟩
        rw [wk1 hkl (by omega)]
        refine ⟨⟨k + 1, by omega, rfl, g16, ?_⟩, by simp only [Int.toNat_natCast]; omega⟩
        have hfin := hW12.step hW16.wr hW16.kp hW16.nw
        rw [flat_snoc hkl, ← List.append_assoc]
        unfold lvB
        unfold lvB at hfin
        simp only [List.append_assoc] at hfin ⊢
        exact hfin
      have hke : k = r.live.length := by omega
      subst hke
      rw [List.take_length] at hW11 lk
      refine ⟨_, _, _, (box hW11).at rfl rfl, ?_⟩
      refine hW11.U (n := r.dirty.length) (by rw [u64_toNat (by omega) (by omega)]; omega) (by omega) (by simp only [List.length_append]; omega) fun g21 w21 hW21 => ⟨rfl, ?_⟩
      refine ⟨_, _, _, (box hW21).at rfl rfl, ?_⟩
      have l21 := vlen31 (n := r.dirty.length) (by omega)
      refine loopN (fun s w22 => ∃ k : Nat, k ≤ r.dirty.length ∧ s.1 = (k : Int) ∧ ∃ g, WrS w5 B g4 w22 g ((((pre ++ vform r.live.length) ++ r.live.flatMap lvB) ++ vform r.dirty.length) ++ (r.dirty.take k).flatMap dvB)) (fun s _ => r.dirty.length - s.1.toNat) ⟨0, Nat.zero_le _, rfl, g21, by simpa using hW21⟩ ?_
      rintro ⟨k0, u⟩ w22 ⟨k, hk, hk0, g22, hW22⟩ _
      dsimp only at hk0 ⊢
      subst hk0
      have lkd : ((r.dirty.take k).flatMap dvB).length ≤ 320 := by
        have := flat_len (f := dvB) (n := 20) (L := r.dirty.take k) fun x hx => ldv x (List.mem_of_mem_take hx)
        rw [List.length_take] at this
        omega
      refine cond_d (fun hlt => ?_) (fun hge => ?_)
      · have hkl : k < r.dirty.length := by omega
        have hx := hD _ (List.getElem_mem hkl)
        refine rd_el DV.csl (by omega) (lis hW22).d hkl hdl fun b o ha hcl => ?_
        have cell1 : w22.cell? (Addr.add ((⟨b, o, none⟩ : Addr).add (Int.toNat (k : Int) * 2)) 1) = some (.int .i64 (r.dirty[k]).since) := by
          rw [Int.toNat_natCast, add_at, add_at]; exact hcl 1 _ rfl
        have cell0 : w22.cell? ((⟨b, o, none⟩ : Addr).add (Int.toNat (k : Int) * 2)) = some (.int .i64 (r.dirty[k]).page) := by
          rw [Int.toNat_natCast, add_at]; exact hcl 0 _ rfl
        refine ⟨_, _, ⟨cell0, cell1, trivial⟩, ?_⟩
        refine dv_cp r.dirty[k] fun b2 w12 h12 => ?_
        have hW12 := hW22.kp0 h12.kp
        have q2 : ¬ fpW B g22 b2 := fun hh => by
          have := hW22.wr.lt b2 hh
          have := h12.nw
          omega
        have l22 : ((((pre ++ vform r.live.length) ++ r.live.flatMap lvB) ++ vform r.dirty.length) ++ (r.dirty.take k).flatMap dvB).length ≤ 3000 := by simp only [List.length_append]; omega
        have v1 := vlen31 (n := (r.dirty[k]).page.toNat) (by omega)
        have hW12' : WrS w12 B g22 w12 g22 ((((pre ++ vform r.live.length) ++ r.live.flatMap lvB) ++ vform r.dirty.length) ++ (r.dirty.take k).flatMap dvB) := WrS.init hW12.wr
        refine ⟨_, h12.at rfl rfl, ?_⟩
        refine hW12'.U (u64_toNat (by omega) (by omega)) (by omega) (by omega) fun g13 w13 hW13 => ⟨rfl, ?_⟩
        have b13 : Blk w13 b2 (r.dirty[k]).cs.toArray T_api_Dirty := hW13.kp.blk h12.blk q2
        refine ⟨_, b13.at rfl rfl, ?_⟩
        refine hW13.U (u64_toNat (by omega) (by omega)) (by omega) (by rw [List.length_append]; omega) fun g14 w14 hW14 => ⟨rfl, ?_⟩
        rw [wk1 hkl (by omega)]
        refine ⟨⟨k + 1, by omega, rfl, g14, ?_⟩, by simp only [Int.toNat_natCast]; omega⟩
        have hfin := hW12.step hW14.wr hW14.kp hW14.nw
        rw [flat_snoc hkl, ← List.append_assoc]
        unfold dvB
        unfold dvB at hfin
        simp only [List.append_assoc] at hfin ⊢
        exact hfin
      have hke : k = r.dirty.length := by omega
      subst hke
      rw [List.take_length] at hW22 lkd
      refine ⟨g22, ?_⟩
      have he : encB r = (((pre ++ vform r.live.length) ++ r.live.flatMap lvB) ++ vform r.dirty.length) ++ r.dirty.flatMap dvB := by
        rw [henc]
        unfold tailB
        rw [if_pos e8]
        simp only [List.append_assoc]
      rw [he]
      refine ⟨hW22, ?_⟩
      simp only [List.length_append]
      omega
    · have : tailB r = [] := by unfold tailB; rw [if_neg n8]
      rw [henc, this, List.append_nil]
      exact ⟨hW8, by omega⟩
  · rintro _ w9 ⟨g9, hW9, hlen⟩ _
    refine writer_Out hW9.wr (by omega) fun a c w' hs k' hf => ⟨_, _, _, rfl, ?_⟩
    have kk : Kp no w w9 := h1.kp.trans0 (hW9.old k15 hB1 hf4)
    exact hok hc0 a c w' (kk.trans0 k') hs fun k hk => by
      have := hf k hk
      have := kk.size
      omega
end Go.Proofs.Ytjhncijdkmbopaa
