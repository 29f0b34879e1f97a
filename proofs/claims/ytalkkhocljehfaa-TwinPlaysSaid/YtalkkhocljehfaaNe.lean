/- Layer 8: Finish. Conditions: the disk's queue and its loss's list are short. -/
import Derived.Test.YtalkkhocljehfaaNd
set_option linter.unusedVariables false
set_option linter.unusedSimpArgs false
namespace Go.Proofs.Ytalkkhocljehfaa
open Go Go.RowKit

/-- IndexFunc, of a function that answers by the byte alone. -/
theorem index_c {w : World} {a : Option Addr} {l c : Nat} {bs : List UInt8} {f : FuncId} {p : UInt8 → Bool} {R : Ending → World → Prop} (hr : Rd w a (bvs bs)) (hl : bs.length = l) (hb : l < 70368744177664)
    (hf : ∀ (x : UInt8) (w : World) (R : Ending → World → Prop), R (.returned (.bool (p x))) w → GoC Try.prog f #[.int .u8 (x.toNat : Int)] w R)
    (h : ∀ n : Int, (0 ≤ n ↔ bs.any p = true) → R (.returned (.int .i64 n)) w) : GoC Try.prog F_slices_IndexFunc_s_byte_byte #[.slice a l c, .func (.func f) #[] #[]] w R := by
  subst hl
  refine S_slices_IndexFunc_s_byte_byte ?_
  unfold W_slices_IndexFunc_s_byte_byte
  refine loopN (fun s w1 => w1 = w ∧ ∃ k : Nat, k ≤ bs.length ∧ s.1 = (k : Int) ∧ (bs.take k).any p = false) (fun s _ => bs.length - s.1.toNat) ⟨rfl, 0, Nat.zero_le _, rfl, rfl⟩ ?_
  rintro ⟨k0, u⟩ w1 ⟨hw1, k, hk, hk0, hany⟩ _
  dsimp only at hk0 ⊢
  subst hk0
  rw [hw1]
  refine cond_d (fun hlt => ?_) (fun hge => ?_)
  · have hkl : k < bs.length := by omega
    refine hr.idx (by omega) hlt (by rw [bvs_len]; omega) fun b o hg hc => ?_
    refine ⟨((bs[k]).toNat : Int), by rw [Int.toNat_natCast, add_at]; exact hc k _ (bvs_get hkl), ?_⟩
    refine hf _ _ _ ⟨_, rfl, cond_b (fun ht => ?_) (fun ht => ?_)⟩
    · refine h _ ⟨fun _ => ?_, fun _ => by omega⟩
      rw [List.any_eq_true]
      exact ⟨bs[k], List.getElem_mem hkl, ht⟩
    · have hwk : IntKind.wrap .i64 ((k : Int) + 1) = ((k + 1 : Nat) : Int) := by rw [wrap_i64 (by omega) (by omega)]; omega
      rw [hwk]
      refine ⟨⟨rfl, k + 1, by omega, rfl, ?_⟩, by simp only [Int.toNat_natCast]; omega⟩
      rw [take_snoc_get _ k hkl, List.any_append, hany]
      simp [ht]
  · have hke : k = bs.length := by omega
    subst hke
    rw [List.take_length] at hany
    exact h _ ⟨fun hh => by omega, fun hh => by rw [hany] at hh; cases hh⟩
theorem odd_c {w : World} {a : Option Addr} {l c : Nat} {bs : List UInt8} {R : Ending → World → Prop} (hr : Rd w a (bvs bs)) (hl : bs.length = l) (hb : l < 70368744177664)
    (h : R (.returned (.bool (bs.any fun x => decide (x.toNat ≠ 0)))) w) : GoC Try.prog F_slices_ContainsFunc_s_byte_byte #[.slice a l c, .func (.func F_twin_Finish_2) #[] #[]] w R := by
  refine S_slices_ContainsFunc_s_byte_byte ?_
  unfold W_slices_ContainsFunc_s_byte_byte
  refine index_c (p := fun x => decide (x.toNat ≠ 0)) hr hl hb (fun x w R hR => S_twin_Finish_2 ?_) fun n hn => ⟨_, rfl, ?_⟩
  · unfold W_twin_Finish_2
    have : (((x.toNat : Nat) : Int) != 0) = decide (x.toNat ≠ 0) := by
      by_cases hx : x.toNat = 0 <;> simp [hx]
    rw [this]
    exact hR
  · have : decide (n ≥ 0) = bs.any fun x => decide (x.toNat ≠ 0) := by
      cases ha : bs.any fun x => decide (x.toNat ≠ 0)
      · have : ¬ (0 ≤ n) := fun hh => by have := hn.1 hh; rw [ha] at this; cases this
        simp [this]
      · have : 0 ≤ n := hn.2 ha
        simp [this]
    rw [this]
    exact h
theorem orV_i64 {a b : Nat} (ha : a < 4294967296) (hb : b < 4294967296) : orV .i64 (a : Int) (b : Int) = ((a ||| b : Nat) : Int) := by
  unfold orV
  have h64 : (4294967296 : Nat) = 2 ^ 32 := rfl
  have := Nat.or_lt_two_pow (h64 ▸ ha) (h64 ▸ hb)
  rw [ofInt_nat, ofInt_nat, BitVec.toNat_or, BitVec.toNat_ofNat, BitVec.toNat_ofNat, Nat.mod_eq_of_lt (by simp only [IntKind.bits]; omega), Nat.mod_eq_of_lt (by simp only [IntKind.bits]; omega)]
  exact wrap_i64 (by omega) (by omega)
theorem shlV_i64 {a s : Nat} (hs : s ≤ 64) (h : a * 2 ^ s < 4294967296) : shlV .i64 (a : Int) (s : Int) = ((a * 2 ^ s : Nat) : Int) := by
  unfold shlV
  rw [Int.toNat_natCast, Nat.min_eq_left (show s ≤ IntKind.bits .i64 from hs)]
  have : (a : Int) * 2 ^ s = ((a * 2 ^ s : Nat) : Int) := by norm_cast
  rw [this]
  exact wrap_i64 (by omega) (by omega)

def finH (m : List UInt8) : Nat := leN (m.take 4)
def finOdd (m : List UInt8) : Bool := ((m.drop 4).take 507).any fun x => decide (x.toNat ≠ 0)
/-- May what a marker says be done? -/
def finG (m : List UInt8) (n : Nat) (at_ : Int) : Prop := (m.getD 511 0).toNat = 165 ∧ finOdd m = false ∧ mayP n at_ (finH m : Int)
instance (m : List UInt8) (n : Nat) (at_ : Int) : Decidable (finG m n at_) := inferInstanceAs (Decidable (_ ∧ _))
/-- What Finish does. -/
def finS (v : Dv) (at_ : Int) (m x y : List UInt8) : (Bool × Nat) × Dv :=
  if (m.getD 511 0).toNat = 0 then ((false, 0), v)
  else if ¬ finG m v.n at_ then ((false, 84), v)
  else if (putL v (finH m : Int) [x, y]).1 ≠ 0 then ((false, (putL v (finH m : Int) [x, y]).1), (putL v (finH m : Int) [x, y]).2)
  else if (putL (putL v (finH m : Int) [x, y]).2 at_ [m.set 511 0]).1 ≠ 0 then ((false, (putL (putL v (finH m : Int) [x, y]).2 at_ [m.set 511 0]).1), (putL (putL v (finH m : Int) [x, y]).2 at_ [m.set 511 0]).2)
  else ((true, 0), (putL (putL v (finH m : Int) [x, y]).2 at_ [m.set 511 0]).2)
def finR (v : Dv) (at_ : Int) : (Bool × Nat) × Dv :=
  if v.down then ((false, 40), v) else if ¬ (0 ≤ at_ ∧ at_ + 3 ≤ (v.n : Int)) then ((false, 4), v) else finS v at_ (v.read at_).1 (v.read (at_ + 1)).1 (v.read (at_ + 2)).1
theorem chunk2 {x y : List UInt8} (hx : x.length = 512) (hy : y.length = 512) : chunkL 2 (x ++ y) = [x, y] := by
  unfold chunkL
  rw [List.take_append_of_le_length (by omega), List.take_of_length_le (by omega), List.drop_append_of_le_length (by omega), List.drop_eq_nil_of_le (by omega), List.nil_append, chunk1 hy]

set_option maxHeartbeats 4000000 in
theorem tfinish_c {w : World} {ow : Nat → Nat} {t b : Nat} {v : Dv} {at_ : Int} {R : Ending → World → Prop} (h : DX w ow t b v) (hs : v.Sm 700000)
    (hK : ∀ e w' ow', DX w' ow' t b (finR v at_).2 → Fro (Td t) w ow w' ow' → ErrV w' e zF ((finR v at_).1.2 : Int) → ErrF w e ∧ ErrO ow' t e → R (.returned (.tuple #[.bool (finR v at_).1.1, e])) w') :
    GoC Try.prog F_twin_Finish #[.pointer (some ⟨b, 0, none⟩), .int .i64 at_] w R := by
  refine S_twin_Finish ?_
  unfold W_twin_Finish
  have hok := h.ok
  have n2 := hok.n2
  refine AlF.intro fun b1 w1 hb1e hb1 k1 _ => ?_
  have hge1 : w.heap.size ≤ b1 := by omega
  have f1 : Fro (fun _ => True) w ow w1 (ext ow w.heap.size (t + 5)) := Fro.of_kp0 (t + 5) k1
  have t1 : ext ow w.heap.size (t + 5) b1 = t + 5 := ext_new (by omega)
  have h1 := h.fr f1 trivial trivial trivial trivial
  have F1 : Fro (Td t) w ow w1 (ext ow w.heap.size (t + 5)) := f1.mono fun _ _ => trivial
  generalize ext ow w.heap.size (t + 5) = ow1 at *
  have td5 : Td t (t + 5) := ⟨by omega, by omega, by omega⟩
  have td6 : Td t (t + 6) := ⟨by omega, by omega, by omega⟩
  have td7 : Td t (t + 7) := ⟨by omega, by omega, by omega⟩
  -- giving up
  have pan : ∀ (e : Nat) (w2 : World) (ow2 : Nat → Nat) (v2 : Dv), finR v at_ = ((false, e), v2) → e ≠ 0 → DX w2 ow2 t b v2 → Fro (Td t) w ow w2 ow2 → Blk w2 b1 #[.nilIface] T_error → ow2 b1 = t + 5 →
      PanD Try.prog F_twin_Finish_1 #[.pointer (some ⟨b1, 0, none⟩)] (fun w23 => (∃ (v7 : Value), w23.cell? ⟨b1, 0, none⟩ = some v7 ∧ (R (.returned (.tuple #[(.bool false), v7])) w23))) R (gaveL (e : Int)) w2 := fun e w2 ow2 v2 ee he h2 F2 x2 t2 =>
    Finish_pan (by omega) x2 fun v' w' hv hf hb' k' => ⟨v', hb'.at rfl rfl, by
      have hk := hK v' w' (ext ow2 w2.heap.size (t + 9))
      rw [ee] at hk
      have fo : Fro (fun u => u ≠ t + 5) w2 ow2 w' (ext ow2 w2.heap.size (t + 9)) := Fro.of_kp (t + 9) k' fun j _ hj hne => hne (by rw [hj]; exact t2)
      exact hk (h2.fr fo (by omega) (by omega) (by omega) (by omega)) (fro_blkE (t + 9) F2 hge1 k') hv ⟨hf.mono F2.kp.size, fun b hb => ext_new (hf b hb)⟩⟩
  refine running_c h1 (fun hd => ⟨rfl, ?_⟩) (fun hd => pan 40 w1 ow1 v (by unfold finR; rw [if_pos hd]) (by decide) h1 F1 hb1 t1)
  refine there_c h1 (by omega) ⟨_, rfl, need_c (fun hq => ⟨rfl, ?_⟩) (fun hq => pan 4 w1 ow1 v (by unfold finR; rw [if_neg (by simp [hd]), if_pos (of_decide_eq_false hq)]) (by decide) h1 F1 hb1 t1)⟩
  have hth := of_decide_eq_true hq
  obtain ⟨r0, q0⟩ := hok.read_at hd (i := at_) hth.1 (by omega)
  obtain ⟨r1, q1⟩ := hok.read_at hd (i := at_ + 1) (by omega) (by omega)
  obtain ⟨r2, q2⟩ := hok.read_at hd (i := at_ + 2) (by omega) (by omega)
  have e0 : finR v at_ = finS v at_ (v.read at_).1 (v.read (at_ + 1)).1 (v.read (at_ + 2)).1 := by unfold finR; rw [if_neg (by simp [hd]), if_neg (fun hh => hh hth)]
  refine get_c h1 (hs.mono (by omega)) fun a1 l1 c1 w5 k5 s5 f5 => ⟨fun _ => ⟨_, _, _, rfl, ?_⟩, fun hne => absurd r0 hne⟩
  have e1 := s5.ln
  have hl1 : l1 = 512 := by omega
  subst hl1
  have hc1 : 512 ≤ c1 := s5.2.1
  have fr5 : Fro (fun _ => True) w1 ow1 w5 (ext ow1 w1.heap.size (t + 6)) := Fro.of_kp0 (t + 6) k5
  have S5 : SlT w5 (ext ow1 w1.heap.size (t + 6)) T_uint8 1 a1 512 c1 (bvs (v.read at_).1) (t + 6) := ⟨s5, fun j hj => ext_new (f5 j hj)⟩
  have h5 := h1.fr fr5 trivial trivial trivial trivial
  obtain ⟨x5, t5⟩ := blk_fr hb1 t1 fr5 trivial
  have F5 := F1.trans (fr5.mono fun u (_ : Td t u) => trivial)
  generalize ext ow1 w1.heap.size (t + 6) = ow5 at *
  generalize hm : (v.read at_).1 = m at *
  have rd5 := S5.sl.rd
  have g511 : m.getD 511 0 = m[511] := by rw [List.getD_eq_getElem?_getD, List.getElem?_eq_getElem (by omega)]; rfl
  unfold finS at e0
  rw [g511] at e0
  refine rd5.idx (by omega) (by omega) (by rw [bvs_len]; omega) fun bm om ha hc => ?_
  subst ha
  have c511 : w5.cell? (Addr.add ⟨bm, om, none⟩ (Int.toNat 511)) = some (.int .u8 ((m[511]).toNat : Int)) := by
    rw [add_at]
    exact hc 511 _ (bvs_get (by omega))
  refine ⟨_, c511, cond_eq (fun hz => ?_) (fun hz => ?_)⟩
  · -- nothing stands
    rw [if_pos (by omega)] at e0
    refine StF.at rfl x5 (by simp) fun w6 x6 k6 _ => ?_
    refine Finish_back x6 fun w7 x7 k7 => ⟨_, x7.at rfl rfl, ?_⟩
    rw [e0] at hK
    exact hK _ w7 ow5 ((h5.fr (fro_own k6 t5) (by omega) (by omega) (by omega) (by omega)).fr (fro_own k7 t5) (by omega) (by omega) (by omega) (by omega)) (fro_blk (fro_blk F5 hge1 k6) hge1 k7) (.inl ⟨rfl, rfl⟩) ⟨ErrF.nil _, ErrO.nil _ _⟩
  rw [if_neg (by omega)] at e0
  refine loopN (fun st w' => w' = w5 ∧ ∃ j : Nat, j ≤ 4 ∧ st.2.1 = (j : Int) ∧ st.1 = ((leN (m.take j) : Nat) : Int)) (fun st _ => 4 - st.2.1.toNat) ⟨rfl, 0, by omega, rfl, rfl⟩ ?_
  rintro ⟨hh0, j0, u⟩ w8 ⟨hw8, j, hj, hj0, hn⟩ _
  dsimp only at hj0 hn ⊢
  subst hw8 hj0 hn
  refine cond_d (fun hlt => ?_) (fun hge => ?_)
  · have hjl : j < 4 := by omega
    refine ⟨by omega, by omega, _, rfl, ⟨((m[j]).toNat : Int), by rw [Int.toNat_natCast, add_at]; exact hc j _ (bvs_get (by omega)), ?_⟩⟩
    have m8 : IntKind.wrap .i64 (8 * (j : Int)) = ((8 * j : Nat) : Int) := by rw [wrap_i64 (by omega) (by omega)]; omega
    have mj : IntKind.wrap .i64 ((j : Int) + 1) = ((j + 1 : Nat) : Int) := wk8 (n := 20) (by omega) (by omega)
    have hb := u8_lt m[j]
    have hlt4 := leN_lt (m.take j)
    rw [List.length_take, Nat.min_eq_left (by omega)] at hlt4
    rw [m8, mj, wrap_i64 (x := ((m[j]).toNat : Int)) (by omega) (by omega)]
    have p8 : 2 ^ (8 * j) = 256 ^ j := by rw [Nat.pow_mul]
    have hbig : (m[j]).toNat * 2 ^ (8 * j) < 4294967296 := by
      rw [p8]
      have : (m[j]).toNat * 256 ^ j ≤ 255 * 256 ^ j := Nat.mul_le_mul_right _ (by omega)
      have : 256 ^ j ≤ 256 ^ 3 := Nat.pow_le_pow_right (by omega) (by omega)
      omega
    have hsm : leN (m.take j) < 4294967296 := by
      have : 256 ^ j ≤ 256 ^ 3 := Nat.pow_le_pow_right (by omega) (by omega)
      omega
    refine ⟨by omega, ⟨rfl, j + 1, by omega, rfl, ?_⟩, by simp only [Int.toNat_natCast]; omega⟩
    rw [shlV_i64 (by omega) hbig, orV_i64 hsm hbig, or_shift (by rw [p8]; exact hlt4), p8, take_snoc_get _ j (by omega), leN_snoc, List.length_take, Nat.min_eq_left (by omega)]
  have hj4 : j = 4 := by omega
  subst hj4
  have hS5 : SlB c1 512 (some 4) (some 511) True := ⟨⟨by omega, by omega⟩, ⟨by omega, by show (4 : Int) ≤ ((Int.toNat 511 : Nat) : Int); decide⟩, trivial⟩
  refine ⟨hS5.1, hS5.2.1, ?_⟩
  have R5 := (S5.rdT).sub (bs := m) (c := c1) (lo := 4) (n := 507) (by omega) (by omega)
  refine odd_c (bs := (m.drop 4).take 507) (l := 507) R5.rd (by rw [List.length_take, List.length_drop]; omega) (by omega) ⟨_, rfl, ⟨by omega, by omega, _, rfl, ⟨_, c511, ?_⟩⟩⟩
  have eH : ((leN (m.take 4) : Nat) : Int) = (finH m : Int) := rfl
  have eO : ((m.drop 4).take 507).any (fun x => decide (x.toNat ≠ 0)) = finOdd m := rfl
  rw [eH, eO]
  have bad : ¬ finG m v.n at_ → PanD Try.prog F_twin_Finish_1 #[.pointer (some ⟨b1, 0, none⟩)] (fun w23 => (∃ (v7 : Value), w23.cell? ⟨b1, 0, none⟩ = some v7 ∧ (R (.returned (.tuple #[(.bool false), v7])) w23))) R (gaveL ((84 : Nat) : Int)) w8 := fun hg => by
    rw [if_pos hg] at e0
    exact pan 84 w8 ow5 v e0 (by decide) h5 F5 x5 t5
  have eG : finG m v.n at_ ↔ (m[511]).toNat = 165 ∧ finOdd m = false ∧ mayP v.n at_ (finH m : Int) := by unfold finG; rw [g511]
  refine cond_eq (fun h165 => cond_not (cond_b (fun ho => ?_) (fun ho => ?_))) (fun h165 => ?_)
  · exact need_c (fun hh => by cases hh) (fun _ => bad fun hg => by have := (eG.1 hg).2.1; rw [ho] at this; cases this)
  rotate_left
  · exact need_c (fun hh => by cases hh) (fun _ => bad fun hg => by have := (eG.1 hg).1; omega)
  refine may_c h5 (by omega) ⟨_, rfl, need_c (fun hq => ⟨rfl, ?_⟩) (fun hq => bad fun hg => of_decide_eq_false hq (eG.1 hg).2.2)⟩
  have hmay := of_decide_eq_true hq
  rw [if_neg (fun hh => hh (eG.2 ⟨by omega, ho, hmay⟩))] at e0
  rw [wrap_i64 (x := at_ + 1) (by omega) (by omega), wrap_i64 (x := at_ + 2) (by omega) (by omega)]
  refine get_c h5 (hs.mono (by omega)) fun a2 l2 c2 w9 k9 s9 f9 => ⟨fun _ => ⟨_, _, _, rfl, ?_⟩, fun hne => absurd r1 hne⟩
  refine get_c (h5.kp0 k9) (hs.mono (by omega)) fun a3 l3 c3 w10 k10 s10 f10 => ⟨fun _ => ⟨_, _, _, rfl, ?_⟩, fun hne => absurd r2 hne⟩
  have e2 := s9.ln
  have e3 := s10.ln
  refine append_own er_u8 (s9.kp0 k10) s10.rd (by rw [bvs_len]; omega) (sl_some' s10) bvs_one (by omega) (by omega) fun a4 c4 w11 s11 k11 i11 _ _ => ⟨_, _, _, rfl, ?_⟩
  rw [← bvs_app] at s11
  have kw : Kp no w8 w11 := (k9.trans0 k10).trans k11 (fun _ _ h => h) fun j hj hh => by have := f9 j hh; omega
  have fw : Fresh w8 a4 := fun j hj => by
    rcases i11 j hj with hh | hh
    · exact f9 j hh
    · have := k9.size
      have := k10.size
      omega
  have fr11 : Fro (fun _ => True) w8 ow5 w11 (ext ow5 w8.heap.size (t + 7)) := Fro.of_kp0 (t + 7) kw
  have S11 : SlT w11 (ext ow5 w8.heap.size (t + 7)) T_uint8 1 a4 (l2 + l3) c4 (bvs ((v.read (at_ + 1)).1 ++ (v.read (at_ + 2)).1)) (t + 7) := ⟨s11, fun j hj => ext_new (fw j hj)⟩
  have h11 := h5.fr fr11 trivial trivial trivial trivial
  obtain ⟨x11, t11⟩ := blk_fr x5 t5 fr11 trivial
  have M11 := S5.fr fr11 trivial
  have F11 := F5.trans (fr11.mono fun u (_ : Td t u) => trivial)
  generalize ext ow5 w8.heap.size (t + 7) = ow11 at *
  have B11 : Bs w11 ow11 t a4 ((v.read (at_ + 1)).1 ++ (v.read (at_ + 2)).1) := ⟨(S11.rdT).mono fun u hu => by rw [hu]; exact td7, by rw [List.length_append]; omega, fun hh => by rw [List.length_append]; have := sl_some' s11 hh; omega⟩
  have hc4 := s11.2.1
  unfold mayP at hmay
  generalize (v.read (at_ + 1)).1 = x at *
  generalize (v.read (at_ + 2)).1 = y at *
  have okA := putL_Ok [x, y] (finH m : Int) hok
  have smA := putL_sm [x, y] (i := (finH m : Int)) hs
  simp only [List.length_cons, List.length_nil] at smA
  refine put_c (k := 2) h11 (hs.mono (by omega)) B11 (by rw [List.length_append]; omega) (by omega) (by omega) hc4 (by omega) fun w12 ow12 h12 f12 => ?_
  rw [chunk2 q1 q2] at h12 ⊢
  obtain ⟨x12, t12⟩ := blk_fr x11 t11 f12 td5
  have F12 := F11.trans f12
  have M12 := M11.fr f12 td6
  refine ⟨fun hz2 => ⟨rfl, ?_⟩, fun hne => pan _ w12 ow12 _ (by rw [e0, if_pos hne]) hne h12 F12 x12 t12⟩
  rw [if_neg (fun hh => hh hz2)] at e0
  generalize (putL v (finH m : Int) [x, y]).2 = vA at *
  refine ⟨by omega, by omega, _, rfl, ?_⟩
  rw [show Value.int .u8 0 = bv 0 from rfl]
  have om0 : om = 0 := by
    obtain ⟨b', cur, ha', _⟩ := s5.addr (by omega)
    cases ha'
    rfl
  subst om0
  have hgem : w.heap.size ≤ bm := by have := f5 bm ⟨_, rfl, rfl⟩; have := k1.size; omega
  refine M12.sl.putv (i := 511) (by omega) (by rw [add_at]; rfl) fun w13 s13 k13 _ => ?_
  rw [bvs_set] at s13
  have kb13 : Kp (fun j => j = bm) w12 w13 := k13.mono fun j _ hj => by obtain ⟨ad, ha, hb⟩ := hj; cases ha; exact hb.symm
  have M13 : SlT w13 ow12 T_uint8 1 (some ⟨bm, 0, none⟩) 512 c1 (bvs (m.set 511 0)) (t + 6) := ⟨s13, M12.tg⟩
  have f13 : Fro (fun u => u ≠ t + 6) w12 ow12 w13 ow12 := Fro.of_kp' k13 fun b' _ hb' hne => hne (M12.tg b' hb')
  have h13 := h12.fr f13 (by omega) (by omega) (by omega) (by omega)
  obtain ⟨x13, t13⟩ := blk_fr x12 t12 f13 (by omega)
  have F13 := fro_blk F12 hgem kb13
  have hml : (m.set 511 0).length = 512 := by rw [List.length_set]; exact q0
  have B13 : Bs w13 ow12 t (some ⟨bm, 0, none⟩) (m.set 511 0) := ⟨(M13.rdT).mono fun u hu => by rw [hu]; exact td6, by omega, fun hh => by cases hh⟩
  refine put_c (k := 1) h13 (smA.mono (by omega)) B13 hml rfl (by omega) hc1 (by omega) fun w14 ow14 h14 f14 => ?_
  rw [chunk1 hml] at h14 ⊢
  obtain ⟨x14, t14⟩ := blk_fr x13 t13 f14 td5
  have F14 := F13.trans f14
  refine ⟨fun hz3 => ⟨rfl, ?_⟩, fun hne => pan _ w14 ow14 _ (by rw [e0, if_pos hne]) hne h14 F14 x14 t14⟩
  rw [if_neg (fun hh => hh hz3)] at e0
  refine StF.at rfl x14 (by simp) fun wA xA kA _ => ?_
  refine Finish_back xA fun wB xB kB => ⟨_, xB.at rfl rfl, ?_⟩
  rw [e0] at hK
  exact hK _ wB _ ((h14.fr (fro_own kA t14) (by omega) (by omega) (by omega) (by omega)).fr (fro_own kB t14) (by omega) (by omega) (by omega) (by omega)) (fro_blk (fro_blk F14 hge1 kA) hge1 kB) (.inl ⟨rfl, rfl⟩) ⟨ErrF.nil _, ErrO.nil _ _⟩
end Go.Proofs.Ytalkkhocljehfaa
