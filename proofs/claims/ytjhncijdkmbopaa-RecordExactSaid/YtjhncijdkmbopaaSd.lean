/- The statement RecordCut: its walk. Conditions: none. -/
import Derived.Test.YtjhncijdkmbopaaSc
set_option linter.unusedVariables false
set_option linter.unusedSimpArgs false
namespace Go.Proofs.Ytjhncijdkmbopaa
open Go Go.RowKit

set_option maxHeartbeats 1000000 in
set_option maxRecDepth 100000 in
theorem recordCut_c {w : World} {r : RV} {m : Mm} {at_ : Int} {a : Option Addr} {l c : Nat} {more : List UInt8} {R : Ending → World → Prop} (hr : RArg w r m) (hm : Rd w a (bvs more)) (hl : more.length = l) (h0 : a = none → l = 0) (hb : l ≤ 140737488351232)
    (h : ∀ w', Kp no w w' → R (.returned (.bool true)) w') : GoC Try.prog F_law05_RecordCut #[.agg (r.ca m), .int .i64 at_, .slice a l c] w R := by
  refine S_law05_RecordCut ?_
  unfold W_law05_RecordCut
  refine AlF.intro fun b1 w1 hb1e hb1 k1 _ => ?_
  refine awake_c fun w2 k2 => ⟨_, rfl, cond_f rfl ?_⟩
  refine rec_rd (k2.blk hb1 id) (cut_c (hr.kp0 (k1.trans0 k2)) fun m3 w3 k3 hl3 hd3 hr3 => ⟨_, _, _, _, _, _, _, _, _, _, _, _, _, _, _, _, _, _, _, _, _, rfl, ?_⟩)
  refine made_c hr3.li (by have := hr3.li.ll; omega) (by have := hr3.li.dl; omega) fun m4 w4 k4 hL4 => ⟨_, _, _, _, _, _, _, _, _, _, _, _, _, _, _, _, _, _, _, _, _, rfl, ?_⟩
  have hc := made_ok (cutR r)
  have h64 : (madeR (cutR r)).w64 := made_64 hr3.wf.w64
  generalize madeR (cutR r) = q at *
  refine encode_c (r := q) (m := m4) hL4 h64 (fun hn => absurd hc hn) fun _ a5 c5 w5 k5 hs5 hf5 => ⟨_, _, _, _, rfl, num_c ⟨_, rfl, cond_f rfl ?_⟩⟩
  have hlen := enc_len hc h64
  refine cond_eq (fun e => by omega) (fun _ => ?_)
  have we : IntKind.wrap .i64 (((encB q).length : Int) - 1) = ((encB q).length : Int) - 1 := wrap_i64 (by omega) (by omega)
  rw [we]
  refine rest_c (by omega) (by omega) (by omega) ⟨_, rfl, ?_⟩
  have hin := rstI_in (n := at_) (lo := 0) (hi := ((encB q).length : Int) - 1) (by omega)
  generalize rstI at_ 0 (((encB q).length : Int) - 1) = k at *
  have hlc := hs5.2.1
  refine ⟨⟨by omega, by omega⟩, trivial, ?_⟩
  rw [subA_zero]
  have z5 := sl_some hs5 (by omega)
  refine decode_c (bs := (encB q).take k.toNat) (rd_cut hs5.rd) (by rw [List.length_take]; omega) (fun hn => by have := z5 hn; omega) (by omega) fun m6 w6 ow6 k6 ho6 hL6 => ?_
  have hcut := dec_cut hc h64 (n := k.toNat) (by omega)
  rw [hcut] at hL6 ⊢
  refine ⟨_, _, _, _, _, _, _, _, _, _, _, _, _, _, _, _, _, _, _, _, _, _, rfl, ?_⟩
  refine rec_cp {} m6 fun b2 w7 h7 => num_c ⟨_, rfl, cond_f rfl ?_⟩
  have k57 : Kp no w5 w7 := k6.trans0 h7.kp
  have k07 : Kp no w w7 := ((((k1.trans0 k2).trans0 k3).trans0 k4).trans0 k5).trans0 k57
  refine ⟨fun s w' => Kp no w7 w' ∧ ∃ (a' : Option Addr) (l' c' : Nat) (ms : List UInt8), s.1 = (a', l', c') ∧ Rd w' a' (bvs ms) ∧ ms.length = l' ∧ (a' = none → l' = 0) ∧ l' ≤ 140737488351232 ∧ ms ≠ [], ?_, ?_⟩
  · refine cond_eq (fun e => AlF.intro fun b3 w8 hb3e hb3 k8 _ => ⟨k8, _, _, _, [0], rfl, rd_cells hb3 rfl, rfl, (fun hn => by cases hn), (by decide), (by simp)⟩) (fun e => ⟨Kp.refl _ _, a, l, c, more, rfl, hm.kp0 k07, hl, h0, hb, fun hn => by rw [hn] at hl; simp at hl; omega⟩)
  rintro ⟨s, u⟩ w8 ⟨k8, a', l', c', ms, hs, hr', hl', h0', hb', hne⟩ _
  dsimp only at hs ⊢
  rw [hs]
  dsimp only
  have s8 := hs5.kp0 (k57.trans0 k8)
  refine append_new er_u8 s8.rd (by rw [bvs_len]; omega) z5 bvs_one (by omega) (by omega) fun a9 c9 w9 hs9 k9 hf9 _ => ⟨_, _, _, rfl, ?_⟩
  refine append_own er_u8 hs9 (hr'.kp0 k9) (by rw [bvs_len]; omega) h0' bvs_one (by omega) (by omega) fun a10 c10 w10 hs10 k10 hi10 hroom hgrow => ⟨_, _, _, rfl, ?_⟩
  have e10 : bvs (encB q) ++ bvs ms = bvs (encB q ++ ms) := by unfold bvs; rw [List.map_append]
  rw [e10] at hs10
  have k710 : Kp no w7 w10 := (k8.trans0 k9).trans k10 (fun _ _ h => h) fun j hj hh => by
    have := hf9 j hh
    have := k8.size
    omega
  refine decode_c (bs := encB q ++ ms) hs10.rd (by rw [List.length_append]; omega) (sl_some hs10 (by omega)) (by omega) fun m11 w11 ow11 k11 ho11 hL11 => ?_
  have hmore := dec_enc hc h64 ms
  rw [if_neg hne] at hmore
  rw [hmore] at hL11 ⊢
  refine ⟨_, _, _, _, _, _, _, _, _, _, _, _, _, _, _, _, _, _, _, _, _, _, rfl, ?_⟩
  refine rec_cp {} m11 fun b4 w12 h12 => num_c ⟨_, rfl, ?_⟩
  exact h w12 (((k07.trans0 k710).trans0 k11).trans0 h12.kp)

theorem recordCut_walk {W : World} {v0 v1 v2 : Value} (h0 : ArgW Try.prog W T_api_Record v0) (h1 : ArgW Try.prog W T_int v1) (h2 : ArgW Try.prog W T_s_uint8 v2) : GoC Try.prog F_law05_RecordCut #[v0, v1, v2] W fun e W' => e = .returned (.bool true) ∧ Kp no W W' := by
  obtain ⟨r, m, rfl, hr⟩ := rec_arg h0
  obtain ⟨n, rfl, _⟩ := int_arg h1
  obtain ⟨a, l, c, bs, rfl, hm, hl, hz, hlc, hb⟩ := bytes_arg h2
  exact recordCut_c hr hm hl hz hb fun w' k => ⟨rfl, k⟩
end Go.Proofs.Ytjhncijdkmbopaa
