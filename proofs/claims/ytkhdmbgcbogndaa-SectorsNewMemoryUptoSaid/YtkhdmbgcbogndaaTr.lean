/- The statement SectorsSynced. Conditions: none. -/
import Derived.Test.YtkhdmbgcbogndaaTn
set_option linter.unusedVariables false
set_option linter.unusedSimpArgs false
namespace Go.Proofs.Ytkhdmbgcbogndaa
open Go Go.RowKit

theorem fill_i (f : UInt8) {k : Nat} (hk : k < 51200) : IntKind.wrap .u8 ((f.toNat : Int) + IntKind.wrap .u8 (IntKind.wrap .i64 (Int.tdiv (k : Int) 200))) = ((f + UInt8.ofNat (k / 200)).toNat : Int) := by
  have := fill_v f hk
  unfold bv at this
  injection this
theorem u8_eq {a b : UInt8} : ((a.toNat : Int) == (b.toNat : Int)) = decide (a = b) := by
  rw [Bool.eq_iff_iff, beq_iff_eq, decide_eq_true_eq]
  constructor
  · intro h
    exact UInt8.toNat_inj.1 (by omega)
  · intro h
    rw [h]
/-- The mark at a byte. -/
def bet (p : PU) (i : Nat) : UInt8 := p.f + UInt8.ofNat (i % 512 / 200)
/-- What the inner loop knows of a byte. -/
structure ByI (n i : Nat) (g wn : UInt8) (M : List PU) (kk : Nat) (may : Bool) (last : Int) : Prop where
  m : may = true ↔ (g = wn ∨ ∃ j, ∃ h : j < M.length, j < kk ∧ (M[j]).i % (n : Int) = ((i / 512 : Nat) : Int) ∧ g = bet M[j] i)
  l : (last = -1 ∧ ∀ j (h : j < M.length), j < kk → (M[j]).i % (n : Int) ≠ ((i / 512 : Nat) : Int)) ∨ (∃ j, ∃ h : j < M.length, j < kk ∧ last = (j : Int) ∧ (M[j]).i % (n : Int) = ((i / 512 : Nat) : Int) ∧ ∀ j' (h' : j' < M.length), j < j' → j' < kk → (M[j']).i % (n : Int) ≠ ((i / 512 : Nat) : Int))
theorem ByI.skip {n i : Nat} {g wn : UInt8} {M : List PU} {kk : Nat} {may : Bool} {last : Int} (h : ByI n i g wn M kk may last) (hk : kk < M.length) (hn : (M[kk]).i % (n : Int) ≠ ((i / 512 : Nat) : Int)) : ByI n i g wn M (kk + 1) may last := by
  refine ⟨h.m.trans (or_congr_right ⟨fun ⟨j, h1, h2, h3⟩ => ⟨j, h1, by omega, h3⟩, fun ⟨j, h1, h2, h3⟩ => ⟨j, h1, ?_, h3⟩⟩), ?_⟩
  · have : j ≠ kk := fun e => by subst e; exact hn h3.1
    omega
  · rcases h.l with ⟨h1, h2⟩ | ⟨j, h1, h2, h3, h4, h5⟩
    · refine .inl ⟨h1, fun j hj hjk => ?_⟩
      by_cases he : j = kk
      · subst he; exact hn
      · exact h2 j hj (by omega)
    · refine .inr ⟨j, h1, by omega, h3, h4, fun j' hj' h6 h7 => ?_⟩
      by_cases he : j' = kk
      · subst he; exact hn
      · exact h5 j' hj' h6 (by omega)
theorem ByI.hit {n i : Nat} {g wn : UInt8} {M : List PU} {kk : Nat} {may : Bool} {last : Int} (h : ByI n i g wn M kk may last) (hk : kk < M.length) (hs : (M[kk]).i % (n : Int) = ((i / 512 : Nat) : Int)) {may' : Bool} (hm : may' = true ↔ (may = true ∨ g = bet M[kk] i)) : ByI n i g wn M (kk + 1) may' (kk : Int) := by
  refine ⟨hm.trans ⟨fun h' => ?_, fun h' => ?_⟩, .inr ⟨kk, hk, by omega, rfl, hs, fun j' hj' h6 h7 => by omega⟩⟩
  · rcases h' with h' | h'
    · rcases h.m.1 h' with h1 | ⟨j, h1, h2, h3⟩
      · exact .inl h1
      · exact .inr ⟨j, h1, by omega, h3⟩
    · exact .inr ⟨kk, hk, by omega, hs, h'⟩
  · rcases h' with h1 | ⟨j, h1, h2, h3, h4⟩
    · exact .inl (h.m.2 (.inl h1))
    · by_cases he : j = kk
      · subst he; exact .inr h4
      · exact .inl (h.m.2 (.inr ⟨j, h1, by omega, h3, h4⟩))
set_option maxRecDepth 100000 in
/-- What a crash leaves at a byte, by the puts. -/
theorem crash_byte {keep : List Nat} {torn off : Int} {n i : Nat} {img : List UInt8} {M : List PU} (hn : 0 < n) (hi : i < n * 512) (hl : img.length = n * 512) :
    ((fallL keep torn off 0 (M.map (PU.q n)) img).getD i 0 = img.getD i 0 ∨ ∃ j, ∃ h : j < M.length, (M[j]).i % (n : Int) = ((i / 512 : Nat) : Int) ∧ (fallL keep torn off 0 (M.map (PU.q n)) img).getD i 0 = bet M[j] i) ∧
    ∀ j (h : j < M.length), (M[j]).i % (n : Int) = ((i / 512 : Nat) : Int) → (∀ j' (h' : j' < M.length), j < j' → (M[j']).i % (n : Int) ≠ ((i / 512 : Nat) : Int)) → keptN keep j = true → (fallL keep torn off 0 (M.map (PU.q n)) img).getD i 0 = bet M[j] i := by
  have hq : ∀ p ∈ M.map (PU.q n), 0 ≤ p.1 ∧ p.1 < (n : Int) ∧ p.2.length = 512 := fun p hp => by
    obtain ⟨x, _, rfl⟩ := List.mem_map.1 hp
    exact ⟨Int.emod_nonneg _ (by omega), Int.emod_lt_of_pos _ (by omega), fillN_len _ _⟩
  have hb := fall_byte keep torn off hi (M.map (PU.q n)) 0 img hl hq
  have hbet : ∀ j (h : j < M.length), ((M.map (PU.q n))[j]'(by simpa using h)).2.getD (i % 512) 0 = bet M[j] i := fun j h => by
    rw [List.getElem_map]
    show (fillN (M[j]).f 512).getD (i % 512) 0 = _
    rw [fillN_getD _ (by omega)]
    rfl
  rw [hb]
  refine ⟨?_, fun j h h1 h2 h3 => ?_⟩
  · rcases gB_one keep torn off (i / 512) (i % 512) (M.map (PU.q n)) 0 (img.getD i 0) with h | ⟨j, h, h1, h2⟩
    · exact .inl h
    · have hj : j < M.length := by simpa using h
      refine .inr ⟨j, hj, by simpa [PU.q] using h1, ?_⟩
      rw [h2, hbet j hj]
  · rw [gB_last keep torn off (i / 512) (i % 512) (M.map (PU.q n)) 0 j (img.getD i 0) (by simpa using h) (by simpa [PU.q] using h1) (fun j' h' hj => by simpa [PU.q] using h2 j' (by simpa using h') hj) (by rw [Nat.zero_add]; exact h3), hbet j h]

theorem new_n (n : Nat) : (Dv.new n).n = n := Dv.n_of (by simp [Dv.new])
theorem rd_byte {w : World} {a : Option Addr} {bs : List UInt8} (h : Rd w a (bvs bs)) {i : Nat} (hi : i < bs.length) {n : Int} (hn : n = (i : Int)) {l : Nat} (hl : bs.length = l) {K : Int → Prop} (hk : K ((bs.getD i 0).toNat : Int)) : IdxF a n l fun d => ∃ m : Int, w.cell? (d.add (Int.toNat n)) = some (.int .u8 m) ∧ K m := by
  subst hn
  obtain ⟨b, o, ha, hc⟩ := h i _ (bvs_get hi)
  have e : bs.getD i 0 = bs[i] := getD_some (List.getElem?_eq_getElem hi)
  rw [e] at hk
  exact ⟨by omega, by omega, _, ha, _, by rw [Int.toNat_natCast, add_at]; exact hc, hk⟩
theorem rd_byteS {S : World → Prop} {w0 : World} (h0 : S w0) {a : Option Addr} {bs : List UInt8} (h : ∀ w, S w → Rd w a (bvs bs)) {i : Nat} (hi : i < bs.length) {n : Int} (hn : n = (i : Int)) {l : Nat} (hl : bs.length = l) {K : Int → Prop} (hk : K ((bs.getD i 0).toNat : Int)) : IdxF a n l fun d => ∃ m : Int, (∀ w, S w → w.cell? (d.add (Int.toNat n)) = some (.int .u8 m)) ∧ K m := by
  subst hn
  obtain ⟨b, o, ha, hc⟩ := h w0 h0 i _ (bvs_get hi)
  have e : bs.getD i 0 = bs[i] := getD_some (List.getElem?_eq_getElem hi)
  rw [e] at hk
  refine ⟨by omega, by omega, _, ha, _, fun w hw => ?_, hk⟩
  obtain ⟨b', o', ha', hc'⟩ := h w hw i _ (bvs_get hi)
  rw [ha] at ha'
  cases ha'
  rw [Int.toNat_natCast, add_at]
  exact hc'
theorem pu_i {w : World} {a : Option Addr} {M : List PU} (h : Rd w a (fU M)) {k : Nat} (hk : k < M.length) {n : Int} (hn : n = (k : Int)) {l : Nat} (hl : M.length = l) {K : Int → Prop} (hK : K (M[k]).i) : IdxF a n l fun d => ∃ m : Int, w.cell? (d.add (Int.toNat n * 2)) = some (.int .i64 m) ∧ K m := by
  subst hn
  obtain ⟨b, o, ha, h1, h2⟩ := puI (S := fun w' => w' = w) rfl (fun w' e => by rw [e]; exact h) hk
  exact ⟨by omega, by omega, _, ha, _, by rw [Int.toNat_natCast]; exact h1 w rfl, hK⟩
theorem pu_f {w : World} {a : Option Addr} {M : List PU} (h : Rd w a (fU M)) {k : Nat} (hk : k < M.length) {n : Int} (hn : n = (k : Int)) {l : Nat} (hl : M.length = l) {K : Int → Prop} (hK : K ((M[k]).f.toNat : Int)) : IdxF a n l fun d => ∃ m : Int, w.cell? (Addr.add (d.add (Int.toNat n * 2)) 1) = some (.int .u8 m) ∧ K m := by
  subst hn
  obtain ⟨b, o, ha, h1, h2⟩ := puI (S := fun w' => w' = w) rfl (fun w' e => by rw [e]; exact h) hk
  exact ⟨by omega, by omega, _, ha, _, by rw [Int.toNat_natCast]; exact h2 w rfl, hK⟩
theorem pu_fS {S : World → Prop} {w : World} (h0 : S w) {a : Option Addr} {M : List PU} (h : ∀ w, S w → Rd w a (fU M)) {k : Nat} (hk : k < M.length) {n : Int} (hn : n = (k : Int)) {l : Nat} (hl : M.length = l) {K : Int → Prop} (hK : K ((M[k]).f.toNat : Int)) : IdxF a n l fun d => ∃ m : Int, (∀ w, S w → w.cell? (Addr.add (d.add (Int.toNat n * 2)) 1) = some (.int .u8 m)) ∧ K m := by
  subst hn
  obtain ⟨b, o, ha, h1, h2⟩ := puI h0 h hk
  exact ⟨by omega, by omega, _, ha, _, fun w hw => by rw [Int.toNat_natCast]; exact h2 w hw, hK⟩
theorem Rd.take' {w : World} {a : Option Addr} {L : List PU} (h : Rd w a (fU L)) (n : Nat) : Rd w a (fU (L.take n)) := by
  have e : fU (L.take n) = (fU L).take (n * 2) := by unfold fU; exact (flatV_take PU.cs_len L n).symm
  rw [e]
  exact h.take _
end Go.Proofs.Ytkhdmbgcbogndaa
