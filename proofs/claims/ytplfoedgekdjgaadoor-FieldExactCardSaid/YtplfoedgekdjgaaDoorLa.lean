/- Contracts of the statements' own small functions of layer 2. Conditions: lengths below 2^46. -/
import Derived.Test.YtplfoedgekdjgaaDoorArg
namespace Go.Proofs.YtplfoedgekdjgaaDoor
open Go Go.RowKit

theorem num_c {w : World} {n : Int} {R : Ending → World → Prop} (h : R (.returned (.int .i64 n)) w) : GoC Tryd.prog F_law02_num #[.int .i64 n] w R := S_law02_num h

theorem same_c {w : World} {a a' : Option Addr} {l l' c c' : Nat} {x y : List UInt8} {R : Ending → World → Prop} (h1 : Rd w a (bvs x)) (hl1 : x.length = l) (h01 : a = none → l = 0) (h2 : Rd w a' (bvs y)) (hl2 : y.length = l') (h02 : a' = none → l' = 0)
    (h : R (.returned (.bool (x == y))) w) : GoC Tryd.prog F_law02_same #[.slice a l c, .slice a' l' c'] w R := by
  refine S_law02_same ?_
  unfold W_law02_same
  refine convert_bytes (e := T_uint8) (by kernel_rfl) (by kernel_rfl) (by kernel_rfl) h1 hl1 h01 fun z hz => ⟨z, rfl, ?_⟩
  refine convert_bytes (e := T_uint8) (by kernel_rfl) (by kernel_rfl) (by kernel_rfl) h2 hl2 h02 fun z' hz' => ⟨z', rfl, ?_⟩
  rw [hz, hz']
  exact h

theorem cut_c {w : World} {a : Option Addr} {l c : Nat} {R : Ending → World → Prop} (hlc : l ≤ c)
    (h : R (.returned (.slice a (min l 4000) c)) w) : GoC Tryd.prog F_law02_cut #[.slice a l c] w R := by
  refine S_law02_cut ?_
  unfold W_law02_cut
  refine cond_d (fun hg => ⟨⟨by omega, by omega⟩, trivial, ?_⟩) (fun hg => ?_)
  · rw [subA_zero]
    have : min l 4000 = (4000 : Int).toNat := by omega
    rw [this] at h
    exact h
  · have : min l 4000 = l := by omega
    rw [this] at h
    exact h

def marks : List UInt8 := [0x5a, 0xa5, 0x33]

theorem rd_lits {w : World} {b : Nat} {T : TypeId} {l : List UInt8} {cs : Array Value} (h : Blk w b cs T) (hc : cs.toList = bvs l) : Rd w (some ⟨b, 0, none⟩) (bvs l) :=
  Rd.of_blk h fun i v hv => by rw [Nat.zero_add, ← Array.getElem?_toList, hc]; exact hv

theorem lent_c {w : World} {a : Option Addr} {l c : Nat} {bs : List UInt8} {R : Ending → World → Prop} (hr : Rd w a (bvs bs)) (hl : bs.length = l) (h0 : a = none → l = 0) (hb : l ≤ 70368744177664)
    (h : ∀ b cur c' w', Blk w' b cur T_uint8 → cur.size = c' → l + 3 ≤ c' → cur.toList.take (l + 3) = bvs (bs ++ marks) → Kp no w w' → w.heap.size ≤ b → R (.returned (.slice (some ⟨b, 0, none⟩) l c')) w') :
    GoC Tryd.prog F_law02_lent #[.slice a l c] w R := by
  refine S_law02_lent ?_
  unfold W_law02_lent
  refine append_new er_u8 hr (by rw [bvs_len]; omega) h0 bvs_one (by omega) (by omega) fun a1 c1 w1 hs1 k1 hf1 _ => ⟨a1, l, c1, rfl, ?_⟩
  refine AlF.intro fun b w2 hbe hblk k2 _ => ?_
  refine append_own er_u8 (hs1.kp0 k2) (rd_lits (l := marks) hblk rfl) rfl (fun h => by cases h) bvs_one (by omega) (by omega) fun a3 c3 w3 hs3 k3 hi3 _ _ => ⟨a3, l + 3, c3, rfl, ?_⟩
  have hls := hs3.2.1
  refine ⟨⟨by omega, by omega⟩, trivial, ?_⟩
  rw [subA_zero, Int.toNat_natCast]
  rw [← bvs_app] at hs3
  rcases hs3.2.2 with ⟨_, h00⟩ | ⟨g, cur, rfl, hg, hsz, htk⟩
  · omega
  · have hk : Kp no w w3 := by
      refine (k1.trans0 k2).trans k3 (fun k _ h => h) fun k hk hk2 => ?_
      have := hf1 k hk2
      omega
    refine h g cur c3 w3 hg (by omega) (by omega) (by simpa using htk) hk ?_
    rcases hi3 g ⟨_, rfl, rfl⟩ with hh | hh
    · exact hf1 g hh
    · have := k1.size; have := k2.size; omega

theorem kept_c {w : World} {a1 a2 : Option Addr} {l1 c1 l2 c2 : Nat} {x bs : List UInt8} {R : Ending → World → Prop} (h1 : Rd w a1 (bvs x)) (hx : x.length = l2 + 3) (hc1 : l2 + 3 ≤ c1) (hn1 : a1 ≠ none) (hr : Rd w a2 (bvs bs)) (hl : bs.length = l2) (h0 : a2 = none → l2 = 0) (hb : l2 ≤ 70368744177664)
    (h : ∀ w', Kp no w w' → R (.returned (.bool (x == bs ++ marks))) w') : GoC Tryd.prog F_law02_kept #[.slice a1 l1 c1, .slice a2 l2 c2] w R := by
  refine S_law02_kept ?_
  unfold W_law02_kept
  have hw3 : IntKind.wrap .i64 ((l2 : Int) + 3) = ((l2 + 3 : Nat) : Int) := by rw [wrap_i64 (by omega) (by omega)]; omega
  rw [hw3, Int.toNat_natCast, subA_zero]
  have kd : Kp no w w.drew := Kp.drew w 1
  refine ⟨fun w' => Kp no w w', kd, ⟨by omega, by omega⟩, trivial, ?_, ?_⟩
  · refine append_new er_u8 (hr.kp0 kd) (by rw [bvs_len]; omega) h0 bvs_one (by omega) (by omega) fun a3 c3 w1 hs1 k1 hf1 _ => ⟨a3, l2, c3, rfl, kd.trans0 k1, ?_⟩
    refine AlF.intro fun b w2 hbe hblk k2 _ => ⟨(kd.trans0 k1).trans0 k2, ?_⟩
    refine append_own er_u8 (hs1.kp0 k2) (rd_lits (l := marks) hblk rfl) rfl (fun h => by cases h) bvs_one (by omega) (by omega) fun a4 c4 w3 hs3 k3 hi3 _ _ => ?_
    have hk : Kp no w w3 := by
      refine ((kd.trans0 k1).trans0 k2).trans k3 (fun k _ h => h) fun k hk hk2 => ?_
      have h3 := hf1 k hk2
      have : w.drew.heap.size = w.heap.size := rfl
      omega
    refine ⟨a4, l2 + 3, c4, rfl, hk, ?_⟩
    rw [← bvs_app] at hs3
    refine same_c (h1.kp0 hk) hx (fun h => absurd h hn1) hs3.rd (by rw [List.length_append, hl]; rfl) (fun h4 => ?_) ⟨_, rfl, hk, h _ hk⟩
    subst h4
    have := hs3.zero
    omega
  · refine AlF.intro fun b w2 hbe hblk k2 _ => ⟨kd.trans0 k2, ?_⟩
    refine append_new er_u8 ((hr.kp0 kd).kp0 k2) (by rw [bvs_len]; omega) h0 bvs_one (by omega) (by omega) fun a3 c3 w1 hs1 k1 hf1 _ => ⟨a3, l2, c3, rfl, (kd.trans0 k2).trans0 k1, ?_⟩
    refine append_own er_u8 hs1 ((rd_lits (l := marks) hblk rfl).kp0 k1) rfl (fun h => by cases h) bvs_one (by omega) (by omega) fun a4 c4 w3 hs3 k3 hi3 _ _ => ?_
    have hk : Kp no w w3 := by
      refine ((kd.trans0 k2).trans0 k1).trans k3 (fun k _ h => h) fun k hk hk2 => ?_
      have h3 := hf1 k hk2
      have : w.drew.heap.size = w.heap.size := rfl
      have := k2.size
      omega
    refine ⟨a4, l2 + 3, c4, rfl, hk, ?_⟩
    rw [← bvs_app] at hs3
    refine same_c (h1.kp0 hk) hx (fun h => absurd h hn1) hs3.rd (by rw [List.length_append, hl]; rfl) (fun h4 => ?_) ⟨_, rfl, hk, h _ hk⟩
    subst h4
    have := hs3.zero
    omega

theorem mark_c {w : World} {k : Nat} {R : Ending → World → Prop} (hk : k ≤ 1000000) (h : R (.returned (bv (UInt8.ofNat (7 * k + 1)))) w) : GoC Tryd.prog F_law02_mark #[.int .i64 (k : Int)] w R := by
  refine S_law02_mark ?_
  unfold W_law02_mark
  have h1 : IntKind.wrap .i64 (7 * (k : Int)) = ((7 * k : Nat) : Int) := by rw [wrap_i64 (by omega) (by omega)]; omega
  have h2 : IntKind.wrap .i64 (((7 * k : Nat) : Int) + 1) = ((7 * k + 1 : Nat) : Int) := by rw [wrap_i64 (by omega) (by omega)]; omega
  rw [h1, h2, u8_mod]
  have : Value.int .u8 (((7 * k + 1) % 256 : Nat) : Int) = bv (UInt8.ofNat (7 * k + 1)) := by simp [bv, UInt8.toNat_ofNat']
  rw [this]
  exact h

/-- []byte of a constant text: its block is marked behind its end. -/
theorem convert_mark {P : Program} {t e : TypeId} (ht : P.underlying t = some (.slice e)) (he : P.underlying e = some (.int .u8)) {w : World} {b : Nat} {cs : Array Value} {T : TypeId} {n c : Nat} (hb : Blk w b cs T) {K : Value → World → Prop}
    (h : ∀ w', (∀ o, w'.cell? ⟨b, o, none⟩ = cs[o]?) → Kp (fun k => k = b) w w' → K (.slice (some ⟨b, 0, none⟩) n c) w') : RunF P (convert t t (.slice (some ⟨b, 0, none⟩) n c)) w K := by
  have hsh : w.shape? b = some (T, cs.size) := by unfold Blk at hb; simp [World.shape?, hb]
  refine ⟨_, w.freeze ⟨b, cs.size, none⟩ 1, ?_, h _ (fun o => ?_) ⟨rfl, rfl, rfl, by simp [World.freeze], fun k hk hn => ?_⟩⟩
  · have hm : (markStringish ⟨b, 0, none⟩).run P w = .ok () (w.freeze ⟨b, cs.size, none⟩ 1) := by
      simp [markStringish, shape, freeze, bind, Sem.bind, Sem.run, hsh, pure]
    simp only [convert, Sem.run_bind, run_und ht, run_und he, Result.andThen_ok, beq_self_eq_true, hm, Sem.run_pure]
  · unfold Blk at hb
    simp [World.freeze, World.cell?, Array.getElem?_modify, hb]
  · simp only [World.freeze, Nat.one_ne_zero, if_false, Array.getElem?_modify]
    rw [if_neg (by omega)]
end Go.Proofs.YtplfoedgekdjgaaDoor
