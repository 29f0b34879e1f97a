/- The disk's Read: its contract. Conditions: none. -/
import Derived.Test.YtkfdkcclojepnaaTw
import Derived.Test.YtkfdkcclojepnaaTz
set_option linter.unusedVariables false
set_option linter.unusedSimpArgs false
namespace Go.Proofs.Ytkfdkcclojepnaa
open Go Go.RowKit

theorem kp_below {w W : World} (h : Below w.heap.size w W) : Kp no w W := ⟨h.os, h.tape, h.output, h.size, fun k hk _ => h.block k hk⟩

theorem clip_c {w : World} {a : Option Addr} {l c : Nat} {R : Ending → World → Prop} (h : l ≤ c) (hK : R (.returned (.slice a l l)) w) : GoC Try.prog F_slices_Clip_s_byte_byte #[.slice a l c] w R :=
  ⟨by kernel_rfl, (clip_calls w a l c h).mono fun e w' ⟨h1, h2⟩ => by rw [h1, h2]; exact hK⟩

set_option maxRecDepth 100000 in
theorem read_c {w : World} {ow : Nat → Nat} {t b kc : Nat} {H : Dh} {Q : List PD} {ka : Option Addr} {v : Dv} {i : Int} {R : Ending → World → Prop} (h : DP w ow t b H Q ka kc v) (hq : Q.length ≤ 1000000)
    (hK : ∀ a' l' c' w', Kp no w w' → Sl w' T_uint8 1 a' l' c' (bvs (v.read i).1) → Fresh w a' → R (.returned (.tuple #[.slice a' l' c', .int .i64 ((v.read i).2 : Int)])) w') :
    GoC Try.prog F_sectors_Device_Read #[.pointer (some ⟨b, 0, none⟩), .int .i64 i] w R := by
  have hok := h.l.ok
  have hlen := hok.len
  have hn2 := hok.n2
  refine ⟨by kernel_rfl, callsIn_wide.1 (rd_head (n := 8) (H := fun x0 x3 x4 x5 w' => ∃ e1 e2 e3, x0 = .pointer (some ⟨b, 0, none⟩) ∧ x3 = .pointer (some ⟨e1, 0, none⟩) ∧ x4 = .pointer (some ⟨e2, 0, none⟩) ∧ x5 = .pointer (some ⟨e3, 0, none⟩) ∧ Kp no w w' ∧ w.heap.size ≤ e2 ∧ w.heap.size ≤ e3 ∧ e2 ≠ e3 ∧
    Boxed w' e1 3 (.int .i64 i) ∧ Boxed w' e2 69 (.slice none 0 0) ∧ Boxed w' e3 47 (.int .i64 0) ∧ v.down = false ∧ v.there i) ?_ ?_)⟩
  · unfold W_rd
    refine AlF.intro fun b1 w1 hb1e hb1 k1 s1 => AlF.intro fun b2 w2 hb2e hb2 k2 s2 => AlF.intro fun b3 w3 hb3e hb3 k3 s3 => ?_
    have k03 := (k1.trans0 k2).trans0 k3
    have h3 := h.kp0 k03
    have g1 := (k2.trans0 k3).blk hb1 id
    have g2 := k3.blk hb2 id
    have fin : ∀ (w' w4 : World) (n : Int), Kp no w w' → Blk w' b2 #[.slice none 0 0] T_s_uint8 → Blk w' b3 #[.int .i64 0] T_api_Errno → ((v.read i).1 = [] ∧ ((v.read i).2 : Int) = n) →
        StF w' ⟨b2, 0, none⟩ (.slice none 0 0) fun w4 => (StF w4 ⟨b3, 0, none⟩ (.int .i64 n) fun w5 => (∃ (a1 : Option Addr) (l1 c1 : Nat), w5.cell? ⟨b2, 0, none⟩ = some (.slice a1 l1 c1) ∧ (∃ (n2 : Int), w5.cell? ⟨b3, 0, none⟩ = some (.int .i64 n2) ∧ (R (.returned (.tuple #[(.slice a1 l1 c1), (.int .i64 n2)])) w5)))) := by
      intro w' _ n k' x2 x3 hr
      refine StF.at rfl x2 (by simp) fun w4 y2 k4 s4 => StF.at rfl (k4.blk x3 (by omega)) (by simp) fun w5 y3 k5 s5 => ?_
      have y2' := k5.blk y2 (by omega)
      refine ⟨none, 0, 0, y2'.cell 0, n, y3.cell 0, ?_⟩
      have := hK none 0 0 w5 (kp_blk (kp_blk k' (by omega) k4) (by omega) k5) (by rw [hr.1]; exact Sl.nil _ _ _) (fun k hk => (is_none hk).elim)
      rw [hr.2] at this
      exact this
    refine ⟨v.down, cN h3.hb rfl, cond_b (fun hd => ?_) (fun hd => ?_)⟩
    · exact fin w3 w3 40 k03 g2 hb3 (by unfold Dv.read; rw [if_pos hd]; exact ⟨rfl, rfl⟩)
    · have kd : Kp no w3 w3.drew := Kp.drew w3 1
      refine ⟨fun w' => Kp no w3 w', kd, i, fun w' kz => (kz.blk g1 id).cell 0, cond_d (fun hlt => ?_) (fun hge => ?_)⟩
      · refine fin _ w3 41 (k03.trans0 kd) (kd.blk g2 id) (kd.blk hb3 id) ?_
        unfold Dv.read
        rw [hd, if_neg (by decide), if_pos (by unfold Dv.there; omega)]
        exact ⟨rfl, rfl⟩
      · refine ⟨i, fun w' kz => (kz.blk g1 id).cell 0, sectors_c (c0 (kd.blk h3.hb id) rfl) (by rw [hlen]; omega) ⟨_, rfl, kd, cond_d (fun hge2 => ?_) (fun hlt2 => ?_)⟩⟩
        · refine fin _ w3 41 (k03.trans0 kd) (kd.blk g2 id) (kd.blk hb3 id) ?_
          unfold Dv.read
          rw [hd, if_neg (by decide), if_pos (by unfold Dv.there Dv.n; omega)]
          exact ⟨rfl, rfl⟩
        · exact ⟨b1, b2, b3, rfl, rfl, rfl, rfl, k03.trans0 kd, by omega, by omega, by omega, kd.blk g1 id, kd.blk g2 id, kd.blk hb3 id, hd, by unfold Dv.there Dv.n; omega⟩
  · rintro a w' hsz hdf ⟨e1, e2, e3, h0, h3, h4, h5, k', hl2, hl3, h23, bx1, bx2, bx3, hd, hth⟩
    have hp := h.kp0 k'
    have hiN : i = ((i.toNat : Nat) : Int) := by have := hth.1; omega
    have hpl := hp.l.pl.sl
    rw [hiN] at bx1
    refine rd_rest (w0 := w) (iN := i.toNat) (n := v.n) (ic := H.ic) (ia := H.ia) (img := v.img) (pa := H.pa) (pc := H.pc) (Q := Q) (fun e W' hR => ?_) hsz hdf h0 h3 h4 h5 (k'.below (Nat.le_refl _) fun _ _ h => h) hl2 hl3 h23 bx1 bx2 bx3 ?_ ?_ (fun x hx => ⟨(hp.l.pb x hx).sl.rd, ?_⟩) hq ?_ hn2 ?_ (by have := hth.1; have := hth.2; omega) hp.l.im.sl.rd hlen
    · obtain ⟨a', c', rfl, hs, hb, hf⟩ := hR
      have e : v.read i = (readL (i.toNat : Int) (Q.map PD.v) ((v.img.drop (i.toNat * 512)).take 512), 0) := by
        unfold Dv.read Dv.sect
        rw [hd, if_neg (by decide), if_neg (by simpa using hth), ← hiN, h.l.qv]
      have := hK a' 512 c' W' (kp_below hb) (by rw [e]; exact hs) hf
      rw [e] at this
      exact this
    · rw [hp.hb.cell]; rfl
    · rcases hpl.2.2 with ⟨q1, q2⟩ | ⟨b', cur, q1, q2, q3, q4⟩
      · exact .inl ⟨q1, by have := hpl.2.1; omega, q2⟩
      · refine .inr ⟨b', q1, q2.lt, fun j u hu => ?_⟩
        obtain ⟨b2, o2, he, hc⟩ := hpl.rd j u hu
        rw [q1] at he
        cases he
        rwa [Nat.zero_add] at hc
    · exact (hok.q _ (by rw [h.l.qv]; exact List.mem_map_of_mem hx)).2.2
    · rw [← hlen]; exact c0 hp.hb rfl
    · have := hp.l.im.sl.2.1; omega
end Go.Proofs.Ytkfdkcclojepnaa
