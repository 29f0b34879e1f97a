/- The contract of the package page's Copy. Conditions: lengths below 2^46. -/
import Derived.Test.YtnkdonpammdldaaDoorGl
set_option linter.unusedVariables false
set_option linter.unusedSimpArgs false
namespace Go.Proofs.YtnkdonpammdldaaDoor
open Go Go.RowKit

theorem CsIn.none {w : World} {a : Option Addr} {L : List CL} (h : CsIn w a L) (ha : a = none) : L = [] := by
  cases L with
  | nil => rfl
  | cons x r => obtain ⟨b, o, h0, _⟩ := h 0 (by simp); rw [ha] at h0; cases h0
theorem GsIn.none {w : World} {a : Option Addr} {L : List GL} (h : GsIn w a L) (ha : a = none) : L = [] := by
  cases L with
  | nil => rfl
  | cons x r => obtain ⟨b, o, h0, _⟩ := h 0 (by simp); rw [ha] at h0; cases h0

theorem sl_empty {w : World} {b : Nat} {T : TypeId} {s : Nat} (h : Blk w b #[] T) : Sl w T s (some ⟨b, 0, none⟩) 0 0 [] := ⟨by simp, Nat.le_refl _, .inr ⟨b, #[], rfl, h, by simp, by simp⟩⟩

theorem cloneC_c {w : World} {a : Option Addr} {l c : Nat} {L : List CL} {R : Ending → World → Prop} (hr : CsIn w a L) (hl : L.length = l) (hb : l * 40 ≤ 140737488355328)
    (h : ∀ a' c' w', Sl w' T_api_Counter 5 a' l c' (fC L) → Kp no w w' → Fresh w a' → R (.returned (.slice a' l c')) w') : GoC Tryd.prog F_slices_Clone_s_api_Counter_api_Counter #[.slice a l c] w R := by
  refine S_slices_Clone_s_api_Counter_api_Counter ?_
  unfold W_slices_Clone_s_api_Counter_api_Counter
  refine cond_b (fun hn => ?_) (fun hn => ?_)
  · have ha : a = none := by simpa using hn
    have hL := hr.none ha
    subst hL
    have hl0 : l = 0 := by simpa using hl.symm
    subst hl0
    exact h none 0 w (Sl.nil _ _ _) (Kp.refl _ _) (fresh_none w)
  · refine AlF.intro fun b w1 hbe hblk k1 s1 => ?_
    refine append_own er_ctr (sl_empty hblk) ((hr.kp0 k1).rd) (by rw [fC_len, hl]) (fun h0 => by subst h0; simp at hn) (fC_one L) (by omega) (by omega) fun a' c' w' hs k hi hroom hgrow => ⟨_, _, _, rfl, ?_⟩
    rw [Nat.zero_add, List.nil_append] at hs
    rw [Nat.zero_add]
    refine h a' c' w' hs (k1.trans k (fun _ _ h => h) fun j hj hh => ?_) fun j hj => ?_
    · obtain ⟨ad, had, rfl⟩ := hh; cases had; dsimp only at hj; omega
    · rcases hi j hj with hh | hh
      · obtain ⟨ad, had, rfl⟩ := hh; cases had; dsimp only; omega
      · omega
theorem cloneG_c {w : World} {a : Option Addr} {l c : Nat} {L : List GL} {R : Ending → World → Prop} (hr : GsIn w a L) (hl : L.length = l) (hb : l * 16 ≤ 140737488355328)
    (h : ∀ a' c' w', Sl w' T_api_Group 2 a' l c' (fG L) → Kp no w w' → Fresh w a' → R (.returned (.slice a' l c')) w') : GoC Tryd.prog F_slices_Clone_s_api_Group_api_Group #[.slice a l c] w R := by
  refine S_slices_Clone_s_api_Group_api_Group ?_
  unfold W_slices_Clone_s_api_Group_api_Group
  refine cond_b (fun hn => ?_) (fun hn => ?_)
  · have ha : a = none := by simpa using hn
    have hL := hr.none ha
    subst hL
    have hl0 : l = 0 := by simpa using hl.symm
    subst hl0
    exact h none 0 w (Sl.nil _ _ _) (Kp.refl _ _) (fresh_none w)
  · refine AlF.intro fun b w1 hbe hblk k1 s1 => ?_
    refine append_own er_grp (sl_empty hblk) ((hr.kp0 k1).rd) (by rw [fG_len, hl]) (fun h0 => by subst h0; simp at hn) (fG_one L) (by omega) (by omega) fun a' c' w' hs k hi hroom hgrow => ⟨_, _, _, rfl, ?_⟩
    rw [Nat.zero_add, List.nil_append] at hs
    rw [Nat.zero_add]
    refine h a' c' w' hs (k1.trans k (fun _ _ h => h) fun j hj hh => ?_) fun j hj => ?_
    · obtain ⟨ad, had, rfl⟩ := hh; cases had; dsimp only at hj; omega
    · rcases hi j hj with hh | hh
      · obtain ⟨ad, had, rfl⟩ := hh; cases had; dsimp only; omega
      · omega

theorem copy_c {w : World} {p : PgV} {cs : List CL} {gs : List GL} {R : Ending → World → Prop} (hp : p.In w cs gs) (hcb : p.cl * 40 ≤ 140737488355328) (hgb : p.gl * 16 ≤ 140737488355328)
    (h : ∀ (q : PgV) w', q.num = p.num → q.lsn = p.lsn → q.Own w' cs gs → Kp no w w' → Fresh w q.ca → Fresh w q.ga → (∀ j, Is q.ca j → ¬ Is q.ga j) → R (.returned (.agg q.cs)) w') : GoC Tryd.prog F_page_Page_Copy #[.agg p.cs] w R := by
  refine S_page_Page_Copy ?_
  unfold W_page_Page_Copy
  refine AlF.intro fun b1 w1 hb1e hb1 k1 s1 => AlF.intro fun b2 w2 hb2e hb2 k2 s2 => ?_
  have hb1' : Blk w1 b1 p.cs T_page_Page := hb1
  refine ⟨p.num, p.lsn, p.ca, p.cl, p.cc, p.ga, p.gl, p.gc, ⟨(k2.blk hb1' id).cell 0, by rw [add_at]; exact (k2.blk hb1' id).cell 1, by rw [add_at]; exact (k2.blk hb1' id).cell 2, by rw [add_at]; exact (k2.blk hb1' id).cell 3, trivial⟩, ?_⟩
  refine AlF.intro fun b3 w3 hb3e hb3 k3 s3 => st4 hb3 rfl fun w7 hb7 k7 s7 => ?_
  have k27 : Kp (fun j => j = b3) w2 w7 := k3.of_no.trans0 k7
  have hb17 : Blk w7 b1 p.cs T_page_Page := k27.blk (k2.blk hb1' id) (by have := hb1.lt; omega)
  have hb27 := k27.blk hb2 (by have := hb2.lt; omega)
  have k07 : Kp no w w7 := kp_blk ((k1.trans0 k2).trans0 k3) (by omega) k7
  refine ⟨fun w' => Blk w' b1 p.cs T_page_Page, (Kp.drew w7 1).blk hb17 id, p.ca, p.cl, p.cc, fun w' hb => by rw [add_at]; exact hb.cell 2, p.ga, p.gl, p.gc, fun w' hb => by rw [add_at]; exact hb.cell 3, ?_⟩
  have kd : Kp no w7 w7.drew := Kp.drew w7 1
  refine cloneC_c (hp.kp0 (k07.trans0 kd)).c hp.cl hcb fun a7 c7 w8 hs8 k8 f8 => ⟨_, _, _, rfl, (kd.trans0 k8).blk hb17 id, ?_⟩
  refine cloneG_c (hp.kp0 ((k07.trans0 kd).trans0 k8)).g hp.gl hgb fun a8 c8 w9 hs9 k9 f9 => ⟨_, _, _, rfl, ((kd.trans0 k8).trans0 k9).blk hb17 id, ?_⟩
  have k79 := (kd.trans0 k8).trans0 k9
  have b13 : b1 ≠ b3 := by omega
  have b12 : b1 ≠ b2 := by omega
  have b23 : b2 ≠ b3 := by omega
  rw [add_at, add_at, add_at]
  refine StF.intro (k79.blk hb7 id) (by simp) fun w10 hb10 k10 s10 => ⟨k10.blk (k79.blk hb17 id) b13, ?_⟩
  refine StF.intro hb10 (by simp) fun w11 hb11 k11 s11 => ⟨k11.blk (k10.blk (k79.blk hb17 id) b13) b13, ?_⟩
  refine ⟨p.num, p.lsn, a7, p.cl, c7, a8, p.gl, c8, ⟨hb11.cell 0, hb11.cell 1, hb11.cell 2, hb11.cell 3, trivial⟩, ?_⟩
  have k911 : Kp (fun j => j = b3) w9 w11 := k10.trans0 k11
  refine ret4 (K := fun q w' => R (.returned (.agg q)) w') (k911.blk (k79.blk hb27 id) b23) rfl fun w15 _ k15 s15 => ?_
  have hsz := k79.size
  have hsz8 := (kd.trans0 k8).size
  have d7 : (w7.drew).heap.size = w7.heap.size := rfl
  have n7 : ∀ j, Is a7 j → w7.heap.size ≤ j := fun j hj => f8 j hj
  have n8 : ∀ j, Is a8 j → w8.heap.size ≤ j := f9
  have l7 := hs8.lt
  refine h ⟨p.num, p.lsn, a7, p.cl, c7, a8, p.gl, c8⟩ w15 rfl rfl ⟨?_, hp.cb, ?_, hp.gb⟩ (kp_blk (kp_blk (k07.trans0 k79) (by omega) k911) (by omega) k15) (fun j hj => ?_) (fun j hj => ?_) fun j hj hh => ?_
  · exact ((hs8.kp0 k9).kp k911 fun j hj hh => by have := n7 j hj; omega).kp k15 fun j hj hh => by have := n7 j hj; omega
  · exact (hs9.kp k911 fun j hj hh => by have := n8 j hj; omega).kp k15 fun j hj hh => by have := n8 j hj; omega
  · have := n7 j hj; have := k07.size; omega
  · have := n8 j hj; have := k07.size; omega
  · have := l7 j hj; have := n8 j hh; omega
end Go.Proofs.YtnkdonpammdldaaDoor
