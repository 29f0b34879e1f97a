/- Layer 8: Read; the calls of no disk. Conditions: the disk's queue is short. -/
import Derived.Test.YtalkkhocljehfaaNc
set_option linter.unusedVariables false
set_option linter.unusedSimpArgs false
namespace Go.Proofs.Ytalkkhocljehfaa
open Go Go.RowKit

theorem readL_len {i : Int} : ∀ (q : List (Int × List UInt8)) (b : List UInt8), (∀ p ∈ q, p.2.length = 512) → b.length = 512 → (readL i q b).length = 512
  | [], b, _, h => h
  | p :: r, b, hq, h => by
    rw [readL]
    refine readL_len r _ (fun x hx => hq x (by simp [hx])) ?_
    split
    · exact hq p (by simp)
    · exact h
theorem Dv.Ok.read_at {v : Dv} (h : v.Ok) (hd : v.down = false) {i : Int} (h0 : 0 ≤ i) (h1 : i < (v.n : Int)) : (v.read i).2 = 0 ∧ (v.read i).1.length = 512 := by
  unfold Dv.read
  rw [hd, if_neg (by simp), if_neg (fun hh => hh ⟨h0, h1⟩)]
  exact ⟨rfl, readL_len _ _ (fun p hp => (h.q p hp).2.2) (sect_len h (by omega))⟩
theorem Sl.ln {w : World} {e : TypeId} {a : Option Addr} {l c : Nat} {bs : List UInt8} (h : Sl w e 1 a l c (bvs bs)) : bs.length = l := by
  have := h.1
  rw [bvs_len] at this
  omega
theorem fresh_nil (w : World) : Fresh w none := fun k hk => (is_none hk).elim
/-- What Read answers. -/
def readR (v : Dv) (i : Int) : Nat × List UInt8 :=
  if v.down then (40, []) else if ¬ (0 ≤ i ∧ i + 2 ≤ (v.n : Int)) then (4, []) else (0, (v.read i).1 ++ (v.read (i + 1)).1)
theorem tread_c {w : World} {ow : Nat → Nat} {t b : Nat} {v : Dv} {i : Int} {R : Ending → World → Prop} (h : DX w ow t b v) (hs : v.Sm 1000000)
    (hK : ∀ a' l' c' e w', Kp no w w' → Sl w' T_uint8 1 a' l' c' (bvs (readR v i).2) → Fresh w a' → ErrV w' e zR ((readR v i).1 : Int) → ErrF w e → R (.returned (.tuple #[.slice a' l' c', e])) w') :
    GoC Try.prog F_twin_Read #[.pointer (some ⟨b, 0, none⟩), .int .i64 i] w R := by
  refine S_twin_Read ?_
  unfold W_twin_Read
  have hok := h.ok
  have n2 := hok.n2
  refine AlF.intro fun b1 w1 hb1e hb1 k1 _ => ?_
  have h1 := h.kp0 k1
  have hge : w.heap.size ≤ b1 := by omega
  have pan : ∀ (e : Nat), readR v i = (e, []) → e ≠ 0 → PanD Try.prog F_twin_Read_1 #[.pointer (some ⟨b1, 0, none⟩)] (fun w2 => ∃ v1, w2.cell? ⟨b1, 0, none⟩ = some v1 ∧ R (.returned (.tuple #[.slice none 0 0, v1])) w2) R (gaveL (e : Int)) w1 := fun e ee he =>
    Read_pan (by omega) hb1 fun v' w' hv hf hb' k' => ⟨v', hb'.at rfl rfl, by
      have hk := hK none 0 0 v' w' (kp_blk k1 hge k')
      rw [ee] at hk
      exact hk (Sl.nil _ _ _) (fresh_nil w) hv (hf.mono k1.size)⟩
  refine running_c h1 (fun hd => ⟨rfl, ?_⟩) (fun hd => pan 40 (by unfold readR; rw [if_pos hd]) (by decide))
  refine there_c h1 (by omega) ⟨_, rfl, need_c (fun hq => ⟨rfl, ?_⟩) (fun hq => pan 4 (by unfold readR; rw [if_neg (by simp [hd]), if_pos (of_decide_eq_false hq)]) (by decide))⟩
  have hth := of_decide_eq_true hq
  have e0 : readR v i = (0, (v.read i).1 ++ (v.read (i + 1)).1) := by unfold readR; rw [if_neg (by simp [hd]), if_neg (fun hh => hh hth)]
  rw [e0] at hK
  obtain ⟨r1, q1⟩ := hok.read_at hd (i := i) hth.1 (by omega)
  obtain ⟨r2, q2⟩ := hok.read_at hd (i := i + 1) (by omega) (by omega)
  refine get_c h1 hs fun a1 l1 c1 w2 k2 s2 f2 => ⟨fun _ => ⟨_, _, _, rfl, ?_⟩, fun hne => absurd r1 hne⟩
  rw [wrap_i64 (by omega) (by omega)]
  refine get_c (h1.kp0 k2) hs fun a2 l2 c2 w3 k3 s3 f3 => ⟨fun _ => ⟨_, _, _, rfl, ?_⟩, fun hne => absurd r2 hne⟩
  have e1 := s2.ln
  have e2 := s3.ln
  have s2' := s2.kp0 k3
  refine append_own er_u8 s2' s3.rd (by rw [bvs_len]; omega) (sl_some' s3) bvs_one (by omega) (by omega) fun a4 c4 w4 s4 k4 i4 _ _ => ⟨_, _, _, rfl, ?_⟩
  have kw3 : Kp no w w3 := (k1.trans0 k2).trans0 k3
  have f2' : Fresh w a1 := fun j hj => by have := f2 j hj; have := k1.size; omega
  have kw4 : Kp no w w4 := kw3.trans k4 (fun _ _ h => h) fun j hj hh => by have := f2' j hh; omega
  have f4 : Fresh w1 a4 := fun j hj => by
    rcases i4 j hj with hh | hh
    · exact f2 j hh
    · have := k2.size
      have := k3.size
      omega
  have x4 : Blk w4 b1 #[.nilIface] T_error := k4.blk (k3.blk (k2.blk hb1 id) id) fun hh => by have := f2 b1 hh; have := hb1.lt; omega
  refine StF.at rfl x4 (by simp) fun w5 x5 k5 _ => ?_
  refine Read_back x5 fun w6 x6 k6 => ⟨_, x6.at rfl rfl, ?_⟩
  have kw6 : Kp no w w6 := kp_blk (kp_blk kw4 hge k5) hge k6
  have ne4 : ∀ j, Is a4 j → ¬ j = b1 := fun j hj hh => by have := f4 j hj; have := hb1.lt; omega
  have s6 : Sl w6 T_uint8 1 a4 (l1 + l2) c4 (bvs (v.read i).1 ++ bvs (v.read (i + 1)).1) := (s4.kp k5 ne4).kp k6 ne4
  rw [← bvs_app] at s6
  exact hK _ _ _ _ w6 kw6 s6 (fun j hj => by have := f4 j hj; have := k1.size; omega) (.inl ⟨rfl, rfl⟩) (ErrF.nil _)

theorem twrite_nil {w : World} {at_ hm : Int} {a : Option Addr} {l c : Nat} {R : Ending → World → Prop}
    (hK : ∀ e w', Kp no w w' → ErrV w' e zW 3 → ErrF w e → R (.returned e) w') : GoC Try.prog F_twin_Write #[.pointer none, .int .i64 at_, .int .i64 hm, .slice a l c] w R := by
  refine S_twin_Write ?_
  unfold W_twin_Write
  refine AlF.intro fun b1 w1 hb1e hb1 k1 _ => running_nil ?_
  exact Write_pan (by omega) hb1 fun v' w' hv hf hb' k' => ⟨v', hb'.at rfl rfl, hK v' w' (kp_blk k1 (by omega) k') hv (hf.mono k1.size)⟩
theorem tread_nil {w : World} {i : Int} {R : Ending → World → Prop}
    (hK : ∀ e w', Kp no w w' → ErrV w' e zR 3 → ErrF w e → R (.returned (.tuple #[.slice none 0 0, e])) w') : GoC Try.prog F_twin_Read #[.pointer none, .int .i64 i] w R := by
  refine S_twin_Read ?_
  unfold W_twin_Read
  refine AlF.intro fun b1 w1 hb1e hb1 k1 _ => running_nil ?_
  exact Read_pan (by omega) hb1 fun v' w' hv hf hb' k' => ⟨v', hb'.at rfl rfl, hK v' w' (kp_blk k1 (by omega) k') hv (hf.mono k1.size)⟩
theorem tfinish_nil {w : World} {i : Int} {R : Ending → World → Prop}
    (hK : ∀ e w', Kp no w w' → ErrV w' e zF 3 → ErrF w e → R (.returned (.tuple #[.bool false, e])) w') : GoC Try.prog F_twin_Finish #[.pointer none, .int .i64 i] w R := by
  refine S_twin_Finish ?_
  unfold W_twin_Finish
  refine AlF.intro fun b1 w1 hb1e hb1 k1 _ => running_nil ?_
  exact Finish_pan (by omega) hb1 fun v' w' hv hf hb' k' => ⟨v', hb'.at rfl rfl, hK v' w' (kp_blk k1 (by omega) k') hv (hf.mono k1.size)⟩
end Go.Proofs.Ytalkkhocljehfaa
