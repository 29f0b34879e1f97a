/- The statement RecordOneForm: its walk. Conditions: none. -/
import Derived.Test.YtjhncijdkmbopaaRx
set_option linter.unusedVariables false
set_option linter.unusedSimpArgs false
namespace Go.Proofs.Ytjhncijdkmbopaa
open Go Go.RowKit

theorem rd_cut {w : World} {a : Option Addr} {bs : List UInt8} {n : Nat} (h : Rd w a (bvs bs)) : Rd w a (bvs (bs.take n)) := by
  have := h.take n
  unfold bvs at *
  rwa [← List.map_take] at this

set_option maxRecDepth 100000 in
theorem oneForm_c {w : World} {a : Option Addr} {l c : Nat} {bs : List UInt8} {R : Ending → World → Prop} (hr : Rd w a (bvs bs)) (hl : bs.length = l) (h0 : a = none → l = 0) (hlc : l ≤ c) (hb : l ≤ 140737488351232)
    (h : ∀ w', Kp no w w' → R (.returned (.bool true)) w') : GoC Try.prog F_law05_RecordOneForm #[.slice a l c] w R := by
  refine S_law05_RecordOneForm ?_
  unfold W_law05_RecordOneForm
  refine awake_c fun w1 k1 => ⟨_, rfl, cond_f rfl ?_⟩
  refine ⟨fun s w' => w' = w1 ∧ s.1 = (a, min l 2000, c), ?_, ?_⟩
  · refine cond_d (fun hg => ⟨⟨by decide, by omega⟩, trivial, rfl, ?_⟩) (fun hg => ⟨rfl, ?_⟩)
    · rw [subA_zero]
      rw [show min l 2000 = 2000 by omega]
      rfl
    · rw [show min l 2000 = l by omega]
  rintro ⟨⟨a', l', c'⟩, u⟩ w2 ⟨hw2, hs⟩ _
  cases hs
  rw [hw2]
  dsimp only
  have hr1 := rd_cut (n := 2000) (hr.kp0 k1)
  have hl1 : (bs.take 2000).length = min l 2000 := by rw [List.length_take]; omega
  have h01 : a = none → min l 2000 = 0 := fun hn => by have := h0 hn; omega
  have hl2 : min l 2000 ≤ 2000 := Nat.min_le_right _ _
  generalize bs.take 2000 = cs at *
  generalize min l 2000 = l1 at *
  refine decode_c hr1 hl1 h01 (by omega) fun m w3 ow k3 ho hL => ?_
  refine ⟨_, _, _, _, _, _, _, _, _, _, _, _, _, _, _, _, _, _, _, _, _, _, rfl, ?_⟩
  refine rec_cp (decB cs).1 m fun b1 w4 h4 => num_c ⟨_, rfl, ?_⟩
  have hrl : (decB cs).1.live.length ≤ 32 ∧ (decB cs).1.dirty.length ≤ 16 := by
    by_cases he : (decB cs).2 = 0
    · obtain ⟨hc, _⟩ := dec_one he
      by_cases e8 : (decB cs).1.kind = 8
      · have := ok_lists hc e8
        omega
      · obtain ⟨k1, k8, hok⟩ := chk_kind hc
        obtain ⟨e1, e2⟩ := (ok_zero hok k1 k8).2 e8
        rw [e1, e2]
        decide
    · rw [dec_err he]
      decide
  have e1 := hL.ll
  have e2 := hL.dl
  have hli : LiIn w4 m (decB cs).1.live (decB cs).1.dirty := (hL.li (by omega) (by omega)).kp0 h4.kp
  have k14 := (k1.trans0 k3).trans0 h4.kp
  refine cond_ne (fun he => ?_) (fun he => ?_)
  · have he' : (decB cs).2 ≠ 0 := by omega
    have hz := dec_err he'
    refine rec_rd h4.blk (rsame_c (r := (decB cs).1) (q := {}) (m := m) (n := {}) hli (li_nil _) fun w5 k5 => ⟨_, rfl, ?_⟩)
    rw [decide_eq_true hz]
    exact h w5 (k14.trans0 k5)
  · have he' : (decB cs).2 = 0 := by omega
    obtain ⟨hc, hlsn, h64, henc⟩ := dec_one he'
    refine rec_rd h4.blk (encode_c (r := (decB cs).1) (m := m) hli h64 (fun hn => absurd hc hn) fun _ a5 c5 w5 k5 hs5 hf5 => ⟨_, _, _, _, rfl, num_c ⟨_, rfl, cond_t rfl ?_⟩⟩)
    refine rec_rd (k5.blk h4.blk id) (check_c (r := (decB cs).1) (m := m) (hli.kp0 k5) fun w6 k6 => ⟨_, rfl, num_c ⟨_, rfl, cond_t (by rw [hc]; rfl) ?_⟩⟩)
    refine ⟨_, ((k5.trans0 k6).blk h4.blk id).at rfl rfl, cond_t (by rw [hlsn]; rfl) ?_⟩
    have hpos := enc_len hc h64
    have r5 := (hs5.kp0 k6).rd
    have z5 := sl_some hs5 (by omega)
    rw [henc] at r5 hpos z5
    have hr6 := hr1.kp0 ((k3.trans0 h4.kp).trans0 (k5.trans0 k6))
    refine same_c (b1 := cs) (b2 := cs) r5 (by rw [henc]) (by rw [henc]; exact z5) hr6 hl1 h01 ⟨_, rfl, ?_⟩
    rw [decide_eq_true rfl]
    exact h w6 ((k14.trans0 k5).trans0 k6)

theorem recordOneForm_walk {W : World} {v0 : Value} (h0 : ArgW Try.prog W T_s_uint8 v0) : GoC Try.prog F_law05_RecordOneForm #[v0] W fun e W' => e = .returned (.bool true) ∧ Kp no W W' := by
  obtain ⟨a, l, c, bs, rfl, hr, hl, hz, hlc, hb⟩ := bytes_arg h0
  exact oneForm_c hr hl hz hlc hb fun w' k => ⟨rfl, k⟩
end Go.Proofs.Ytjhncijdkmbopaa
