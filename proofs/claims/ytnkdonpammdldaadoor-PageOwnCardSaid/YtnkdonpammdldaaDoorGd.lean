/- Contracts of the package page: laid, taken, sum; Put on an owned slice. Conditions: lengths below 2^46. -/
import Derived.Test.YtnkdonpammdldaaDoorGc
import Derived.Test.YtnkdonpammdldaaDoorF1
set_option linter.unusedVariables false
set_option linter.unusedSimpArgs false
namespace Go.Proofs.YtnkdonpammdldaaDoor
open Go Go.RowKit

theorem fresh_none (w : World) : Fresh w none := fun k hk => by obtain ⟨ad, h0, _⟩ := hk; cases h0
theorem rd_lits0 {w : World} {b : Nat} {T : TypeId} {l : List UInt8} {cs : Array Value} (h : Blk w b cs T) (hc : cs.toList = bvs l) : Rd w (some ⟨b, 0, none⟩) (bvs l) :=
  Rd.of_blk h fun i v hv => by rw [Nat.zero_add, ← Array.getElem?_toList, hc]; exact hv

theorem putR_len (B : List UInt8) (at_ size : Int) (n : Nat) : (putR B at_ size n).1.length = B.length := by
  unfold putR
  split
  · rename_i hfit
    obtain ⟨f1, f2, f3, f4⟩ := hfit
    split
    · rw [over_len (by rw [leB8_len]; omega)]
    · rfl
  · rfl

theorem put_sl {w : World} {a : Option Addr} {l c : Nat} {B : List UInt8} {at_ size : Int} {n : Nat} {R : Ending → World → Prop} (hs : Sl w T_uint8 1 a l c (bvs B)) (h0 : 0 < l) (hb : l < 70368744177664) (hn : n < 18446744073709551616)
    (h : ∀ w', Sl w' T_uint8 1 a l c (bvs (putR B at_ size n).1) → Kp (Is a) w w' → R (.returned (.int .i64 ((putR B at_ size n).2 : Int))) w') :
    GoC Tryd.prog F_field_Put #[.slice a l c, .int .i64 at_, .int .i64 size, .int .u64 (n : Int)] w R := by
  have hl : B.length = l := by rw [← bvs_len]; exact hs.len
  have hlc := hs.2.1
  obtain ⟨b, cur, rfl, hblk, hsz, htk⟩ := hs.addr h0
  subst hl
  rw [Nat.mul_one] at htk hsz
  refine put_c (o := 0) hblk (fun i v hv => ?_) hb hn fun cur' w' hblk' hsz' hcur' _ k' => h w' ⟨?_, hlc, .inr ⟨b, cur', rfl, hblk', by omega, ?_⟩⟩ (k'.mono fun k _ hk => ⟨_, rfl, hk.symm⟩)
  · rw [← htk, List.getElem?_take] at hv
    split at hv
    · rw [Nat.zero_add, ← Array.getElem?_toList]; exact hv
    · cases hv
  · rw [bvs_len, putR_len, Nat.mul_one]
  · rw [Nat.mul_one]
    have hPl := putR_len B at_ size n
    apply List.ext_getElem?
    intro i
    rw [List.getElem?_take]
    by_cases hi : i < B.length
    · rw [if_pos hi]
      have hv : (bvs (putR B at_ size n).1)[i]? = some (bv ((putR B at_ size n).1[i]'(by omega))) := bvs_get (by omega)
      have := hcur' i _ hv
      rw [hv, Array.getElem?_toList]
      rw [Nat.zero_add] at this
      exact this
    · rw [if_neg hi, List.getElem?_eq_none (by rw [bvs_len, hPl]; omega)]

/-- Numbers of these sizes, laid one behind the other. -/
def laidP : List UInt8 → Int → List (Int × Nat) → List UInt8
  | B, _, [] => B
  | B, at_, (s, n) :: r => laidP (putR B at_ s n).1 (at_ + s) r
theorem laidP_len : ∀ (l : List (Int × Nat)) (B : List UInt8) (at_ : Int), (laidP B at_ l).length = B.length
  | [], _, _ => rfl
  | (s, n) :: r, B, at_ => by rw [laidP, laidP_len r, putR_len]

def ints (l : List Int) : List Value := l.map fun n => .int .i64 n
def u64s (l : List Nat) : List Value := l.map fun (n : Nat) => Value.int .u64 ((n : Nat) : Int)

theorem laid_c {w : World} {a a2 a3 : Option Addr} {l c l2 c2 l3 c3 : Nat} {B : List UInt8} {at_ : Int} {ss : List Int} {ns : List Nat} {R : Ending → World → Prop} (hs : Sl w T_uint8 1 a l c (bvs B)) (h0 : 0 < l) (hb : l < 70368744177664)
    (h2 : Rd w a2 (ints ss)) (hl2 : ss.length = l2) (h3 : Rd w a3 (u64s ns)) (hl3 : ns.length = l3) (hle : ns.length ≤ ss.length) (h23 : ∀ k, Is a k → ¬ Is a2 k ∧ ¬ Is a3 k) (hn : ∀ n ∈ ns, n < 18446744073709551616)
    (hss : ∀ s ∈ ss, 0 ≤ s ∧ s ≤ 8) (hat : 0 ≤ at_ ∧ at_ ≤ 1000000) (hl10 : ns.length ≤ 1000)
    (h : ∀ w', Sl w' T_uint8 1 a l c (bvs (laidP B at_ (ss.zip ns))) → Kp (Is a) w w' → R (.returned (.tuple #[])) w') :
    GoC Tryd.prog F_page_laid #[.slice a l c, .int .i64 at_, .slice a2 l2 c2, .slice a3 l3 c3] w R := by
  subst hl2 hl3
  refine S_page_laid ?_
  unfold W_page_laid
  refine loopN (fun s w1 => ∃ (k : Nat) (at1 : Int) (B1 : List UInt8), k ≤ ns.length ∧ s = (at1, (k : Int), ()) ∧ 0 ≤ at1 ∧ at1 ≤ 1000000 + 8 * k ∧ Sl w1 T_uint8 1 a l c (bvs B1) ∧ Kp (Is a) w w1 ∧ laidP B1 at1 ((ss.drop k).zip (ns.drop k)) = laidP B at_ (ss.zip ns)) (fun s _ => ns.length - s.2.1.toNat)
    ⟨0, at_, B, Nat.zero_le _, rfl, hat.1, by omega, hs, Kp.refl _ _, rfl⟩ ?_
  rintro s w1 ⟨k, at1, B1, hk, rfl, ha0, ha1, hs1, k1, hP⟩ _
  dsimp only
  refine cond_d (fun hlt => ?_) (fun hge => ?_)
  · have hkn : k < ns.length := by omega
    have hks : k < ss.length := by omega
    have h2' : ∀ w', Kp (Is a) w w' → Rd w' a2 (ints ss) := fun w' kk => h2.kp kk fun b hb hh => (h23 b hh).1 hb
    have h3' := h3.kp k1 fun b hb hh => (h23 b hh).2 hb
    have hwk : IntKind.wrap .i64 ((k : Int) + 1) = ((k + 1 : Nat) : Int) := by rw [wrap_i64 (by omega) (by omega)]; omega
    rw [hwk]
    have hsk := hss ss[k] (List.getElem_mem hks)
    refine h3'.idx (by omega) hlt (by simp [u64s]) fun b o hg hc => ⟨((ns[k] : Nat) : Int), by rw [Int.toNat_natCast, add_at]; exact hc k _ (by simp [u64s, hkn]), ?_⟩
    refine (h2' w1 k1).idx (by omega) (by omega) (by simp [ints]) fun b2 o2 hg2 hc2 => ⟨ss[k], by rw [Int.toNat_natCast, add_at]; exact hc2 k _ (by simp [ints, hks]), ?_⟩
    refine put_sl hs1 h0 hb (hn _ (List.getElem_mem hkn)) fun w2 hs2 k2 => ⟨_, rfl, ?_⟩
    have k12 := k1.trans0 k2
    refine (h2' w2 k12).idx (by omega) (by omega) (by simp [ints]) fun b4 o4 hg4 hc4 => ⟨ss[k], by rw [Int.toNat_natCast, add_at]; exact hc4 k _ (by simp [ints, hks]), ?_⟩
    rw [wrap_i64 (by omega) (by omega)]
    refine ⟨⟨k + 1, at1 + ss[k], _, by omega, rfl, by omega, by omega, hs2, k12, ?_⟩, by simp only [Int.toNat_natCast]; omega⟩
    rw [← hP, List.drop_eq_getElem_cons hks, List.drop_eq_getElem_cons hkn, List.zip_cons_cons, laidP]
  · have hke : k = ns.length := by omega
    subst hke
    rw [List.drop_length, List.zip_nil_right, laidP] at hP
    subst hP
    exact h w1 hs1 k1

theorem er_u64 : ElemRow Tryd.prog T_s_uint64 T_uint64 (.int .u64 0) 1 8 := elemRow (by kernel_rfl) (by kernel_rfl) rfl

/-- Numbers of these sizes, read one behind the other. -/
def takenP (B : List UInt8) : Int → List Int → List Nat
  | _, [] => []
  | at_, s :: r => (getR B at_ s).1 :: takenP B (at_ + s) r
theorem takenP_len (B : List UInt8) : ∀ (l : List Int) (at_ : Int), (takenP B at_ l).length = l.length
  | [], _ => rfl
  | s :: r, at_ => by rw [takenP, List.length_cons, List.length_cons, takenP_len B r]
theorem u64s_app (l r : List Nat) : u64s (l ++ r) = u64s l ++ u64s r := by simp [u64s]

theorem taken_c {w : World} {a a2 : Option Addr} {l c l2 c2 : Nat} {B : List UInt8} {at_ : Int} {ss : List Int} {R : Ending → World → Prop} (hr : Rd w a (bvs B)) (hl : B.length = l) (hb : l < 70368744177664)
    (h2 : Rd w a2 (ints ss)) (hl2 : ss.length = l2) (hss : ∀ s ∈ ss, 0 ≤ s ∧ s ≤ 8) (hat : 0 ≤ at_ ∧ at_ ≤ 1000000) (hl10 : ss.length ≤ 1000)
    (h : ∀ a' c' w', Sl w' T_uint64 1 a' ss.length c' (u64s (takenP B at_ ss)) → Kp no w w' → Fresh w a' → R (.returned (.slice a' ss.length c')) w') :
    GoC Tryd.prog F_page_taken #[.slice a l c, .int .i64 at_, .slice a2 l2 c2] w R := by
  subst hl2
  refine S_page_taken ?_
  unfold W_page_taken
  refine loopN (fun s w1 => ∃ (k : Nat) (at1 : Int) (a' : Option Addr) (c' : Nat) (out : List Nat), k ≤ ss.length ∧ s = (at1, (a', k, c'), (k : Int), ()) ∧ 0 ≤ at1 ∧ at1 ≤ 1000000 + 8 * k ∧ Sl w1 T_uint64 1 a' k c' (u64s out) ∧ Kp no w w1 ∧ Fresh w a' ∧ out ++ takenP B at1 (ss.drop k) = takenP B at_ ss) (fun s _ => ss.length - s.2.2.1.toNat)
    ⟨0, at_, none, 0, [], Nat.zero_le _, rfl, hat.1, by omega, Sl.nil _ _ _, Kp.refl _ _, fresh_none w, rfl⟩ ?_
  rintro s w1 ⟨k, at1, a', c', out, hk, rfl, ha0, ha1, hs1, k1, hf1, hP⟩ _
  dsimp only
  refine cond_d (fun hlt => ?_) (fun hge => ?_)
  · have hks : k < ss.length := by omega
    have hwk : IntKind.wrap .i64 ((k : Int) + 1) = ((k + 1 : Nat) : Int) := by rw [wrap_i64 (by omega) (by omega)]; omega
    rw [hwk]
    have hsk := hss ss[k] (List.getElem_mem hks)
    refine (h2.kp0 k1).idx (by omega) hlt (by simp [ints]) fun b2 o2 hg2 hc2 => ⟨ss[k], by rw [Int.toNat_natCast, add_at]; exact hc2 k _ (by simp [ints, hks]), ?_⟩
    refine get_l hl rfl (hr.kp0 k1) (by omega) ⟨_, _, rfl, ?_⟩
    refine push_own er_u64 hs1 (v := .int .u64 (((getR B at1 ss[k]).1 : Nat) : Int)) rfl (by omega) (by omega) fun a'' c'' w2 hs2 k2 hi2 => ?_
    rw [wrap_i64 (by omega) (by omega)]
    have e : u64s out ++ [Value.int .u64 (((getR B at1 ss[k]).1 : Nat) : Int)] = u64s (out ++ [(getR B at1 ss[k]).1]) := by rw [u64s_app]; rfl
    rw [e] at hs2
    refine ⟨⟨k + 1, at1 + ss[k], a'', c'', _, by omega, rfl, by omega, by omega, hs2, k1.trans k2 (fun _ _ h => h) (fun j hj hh => by have := hf1 j hh; omega), fun j hj => ?_, ?_⟩, by simp only [Int.toNat_natCast]; omega⟩
    · rcases hi2 j hj with hh | hh
      · exact hf1 j hh
      · have := k1.size; omega
    · rw [← hP, List.drop_eq_getElem_cons hks, takenP, List.append_assoc]
      rfl
  · have hke : k = ss.length := by omega
    subst hke
    rw [List.drop_length, takenP, List.append_nil] at hP
    subst hP
    exact h a' c' w1 hs1 k1 hf1

/-- A page's checksum: its own place counts as zeros. -/
def psumN (B : List UInt8) : Nat := sumN (B.take 12 ++ (List.replicate 4 0 ++ B.drop 16))
theorem pgsum_c {w : World} {a : Option Addr} {l c : Nat} {B : List UInt8} {R : Ending → World → Prop} (hnib : Nib w) (hr : Rd w a (bvs B)) (hl : B.length = l) (hlc : l ≤ c) (h16 : 16 ≤ l) (hb : l < 70368744177664)
    (h : ∀ w', Kp no w w' → R (.returned (.int .u32 (psumN B : Int))) w') : GoC Tryd.prog F_page_sum #[.slice a l c] w R := by
  refine S_page_sum ?_
  unfold W_page_sum
  have kd : Kp no w w.drew := Kp.drew w 1
  refine ⟨fun w' => Kp no w w', kd, ⟨by omega, by omega⟩, trivial, trivial, ⟨by omega, by simp only [hiOf]; omega⟩, ?_⟩
  refine make_u8 (n := 4) (by omega) fun b2 w1 cur hb2 hcur k1 _ => ⟨_, _, _, rfl, kd.trans0 k1, ?_⟩
  refine AlF.intro fun b w2 _ hbb k2 _ => ⟨(kd.trans0 k1).trans0 k2, ?_⟩
  have q2 := (kd.trans0 k1).trans0 k2
  have e12 : Int.toNat 12 = 12 := rfl
  have e16 : Int.toNat 16 = 16 := rfl
  rw [e12, e16, subA_zero] at hbb
  refine sum_c (l := [⟨a, 12, c, B.take 12⟩, ⟨some ⟨b2, 0, none⟩, 4, 4, List.replicate 4 0⟩, ⟨subA a c 16 1, l - 16, c - 16, B.drop 16⟩]) (hnib.kp0 q2) (Rd.of_blk hbb fun i v hv => by rw [Nat.zero_add, ← Array.getElem?_toList]; exact hv) ?_ (by simp) ⟨_, rfl, q2, ?_⟩
  · intro p hp
    simp only [List.mem_cons, List.not_mem_nil, or_false] at hp
    rcases hp with rfl | rfl | rfl
    · refine ⟨?_, by dsimp only; rw [List.length_take]; omega, by dsimp only; omega⟩
      dsimp only
      rw [bvs, List.map_take]
      exact (hr.kp0 q2).take 12
    · exact ⟨(rd_lits0 hb2 hcur).kp0 k2, rfl, by dsimp only; omega⟩
    · exact ⟨rd_drop (hr.kp0 q2) (by omega), by dsimp only; rw [List.length_drop]; omega, by dsimp only; omega⟩
  · have e : flat [⟨a, 12, c, B.take 12⟩, ⟨some ⟨b2, 0, none⟩, 4, 4, List.replicate 4 0⟩, ⟨subA a c 16 1, l - 16, c - 16, B.drop 16⟩] = B.take 12 ++ (List.replicate 4 0 ++ B.drop 16) := by simp [flat]
    rw [e]
    exact h w2 q2
end Go.Proofs.YtnkdonpammdldaaDoor
