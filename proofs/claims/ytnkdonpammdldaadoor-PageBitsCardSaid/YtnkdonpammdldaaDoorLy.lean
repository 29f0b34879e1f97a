/- Plain: bytes that are taken are what is written of the answer; a right page under any number; one bit turned. Conditions: none. -/
import Derived.Test.YtnkdonpammdldaaDoorGz
import Derived.Test.YtnkdonpammdldaaDoorGu
set_option linter.unusedVariables false
set_option linter.unusedSimpArgs false
namespace Go.Proofs.YtnkdonpammdldaaDoor
open Go Go.RowKit

theorem leN_inj : ∀ {l k : List UInt8}, l.length = k.length → leN l = leN k → l = k
  | [], [], _, _ => rfl
  | [], _ :: _, h, _ => by simp at h
  | _ :: _, [], h, _ => by simp at h
  | x :: l, y :: k, h, he => by
    have hx := u8_lt x
    have hy := u8_lt y
    simp only [leN] at he
    have h1 : x.toNat = y.toNat := by omega
    have h2 : leN l = leN k := by omega
    rw [UInt8.toNat_inj.1 h1, leN_inj (by simpa using h) h2]
theorem rdN_ag {X Y : List UInt8} {a s : Nat} (hx : a + s ≤ X.length) (hy : a + s ≤ Y.length) (h : rdN X a s = rdN Y a s) : AgB X Y a (a + s) := by
  have e : (X.drop a).take s = (Y.drop a).take s := leN_inj (by simp; omega) h
  intro i h1 h2
  have := congrArg (fun l => l[i - a]?) e
  simp only [List.getElem?_take, List.getElem?_drop] at this
  rw [if_pos (by omega), if_pos (by omega), show a + (i - a) = i by omega] at this
  exact this
theorem AgB.join {X Y : List UInt8} {a b c : Nat} (h : AgB X Y a b) (h' : AgB X Y b c) : AgB X Y a c := fun i h1 h2 => by
  by_cases hi : i < b
  · exact h i h1 hi
  · exact h' i (by omega) h2
theorem ctr_ag {X Y : List UInt8} {i : Nat} (hx : 16 + 32 * i + 32 ≤ X.length) (hy : 16 + 32 * i + 32 ≤ Y.length) (h : ctrAt X i = ctrAt Y i) : AgB X Y (16 + 32 * i) (16 + 32 * i + 32) := by
  unfold ctrAt at h
  simp only [CL.mk.injEq] at h
  obtain ⟨h1, h2, h3, h4, h5⟩ := h
  generalize 16 + 32 * i = z at *
  have b : ∀ (B : List UInt8) (a s : Nat), s ≤ 8 → rdN B a s < 18446744073709551616 := fun B a s hs => Nat.lt_of_lt_of_le (rdN_lt B a s) (Nat.le_trans (Nat.pow_le_pow_right (by omega) hs) (by decide))
  have g1 := rdN_ag (by omega) (by omega) (i64_inj (b _ _ _ (by omega)) (b _ _ _ (by omega)) h1)
  have g2 := rdN_ag (by omega) (by omega) (i64_inj (b _ _ _ (by omega)) (b _ _ _ (by omega)) h2)
  have g3 := rdN_ag (by omega) (by omega) (i64_inj (b _ _ _ (by omega)) (b _ _ _ (by omega)) h3)
  have g4 := rdN_ag (by omega) (by omega) (i64_inj (b _ _ _ (by omega)) (b _ _ _ (by omega)) h4)
  have g5 := rdN_ag (by omega) (by omega) (i64_inj (b _ _ _ (by omega)) (b _ _ _ (by omega)) h5)
  exact (((g1.join g2).join g3).join g4).join g5
theorem grp_ag {X Y : List UInt8} {i : Nat} (hx : 16 + 12 * i + 12 ≤ X.length) (hy : 16 + 12 * i + 12 ≤ Y.length) (h : grpAt X i = grpAt Y i) : AgB X Y (16 + 12 * i) (16 + 12 * i + 12) := by
  unfold grpAt at h
  simp only [GL.mk.injEq] at h
  obtain ⟨h1, h2⟩ := h
  generalize 16 + 12 * i = z at *
  have b : ∀ (B : List UInt8) (a s : Nat), s ≤ 8 → rdN B a s < 18446744073709551616 := fun B a s hs => Nat.lt_of_lt_of_le (rdN_lt B a s) (Nat.le_trans (Nat.pow_le_pow_right (by omega) hs) (by decide))
  have g1 := rdN_ag (by omega) (by omega) (i64_inj (b _ _ _ (by omega)) (b _ _ _ (by omega)) h1)
  have g2 := rdN_ag (by omega) (by omega) (i64_inj (b _ _ _ (by omega)) (b _ _ _ (by omega)) h2)
  exact g1.join g2
theorem ctrs_ag {X Y : List UInt8} (k : Nat) (hx : 16 + 32 * k ≤ X.length) (hy : 16 + 32 * k ≤ Y.length) (h : ∀ i, i < k → ctrAt X i = ctrAt Y i) : AgB X Y 16 (16 + 32 * k) := by
  induction k with
  | zero => intro i h1 h2; omega
  | succ k ih =>
    have g := ctr_ag (i := k) (by omega) (by omega) (h k (by omega))
    have := (ih (by omega) (by omega) fun i hi => h i (by omega)).join g
    rwa [show 16 + 32 * k + 32 = 16 + 32 * (k + 1) by omega] at this
theorem grps_ag {X Y : List UInt8} (k : Nat) (hx : 16 + 12 * k ≤ X.length) (hy : 16 + 12 * k ≤ Y.length) (h : ∀ i, i < k → grpAt X i = grpAt Y i) : AgB X Y 16 (16 + 12 * k) := by
  induction k with
  | zero => intro i h1 h2; omega
  | succ k ih =>
    have g := grp_ag (i := k) (by omega) (by omega) (h k (by omega))
    have := (ih (by omega) (by omega) fun i hi => h i (by omega)).join g
    rwa [show 16 + 12 * k + 12 = 16 + 12 * (k + 1) by omega] at this

/-- Two rows of bytes that say one page are one. -/
theorem pgb_unique {X Y : List UInt8} {num lsn : Nat} {cs : List CL} {gs : List GL} (hX : PgB X num lsn cs gs) (hY : PgB Y num lsn cs gs) (h1 : cs.length = 0 ∨ gs.length = 0) (h3 : cs.length ≤ 31) (h4 : gs.length ≤ 84) : X = Y := by
  have lx := hX.len
  have ly := hY.len
  have a0 : AgB X Y 0 1 := rdN_ag (a := 0) (s := 1) (by omega) (by omega) (by rw [byteN_rd X 0 (by omega), byteN_rd Y 0 (by omega), hX.b0, hY.b0])
  have a1 : AgB X Y 1 2 := rdN_ag (a := 1) (s := 1) (by omega) (by omega) (by rw [byteN_rd X 1 (by omega), byteN_rd Y 1 (by omega), hX.b1, hY.b1])
  have a2 : AgB X Y 2 4 := rdN_ag (a := 2) (s := 2) (by omega) (by omega) (show dNum X = dNum Y by rw [hX.hnum, hY.hnum])
  have a4 : AgB X Y 4 6 := rdN_ag (a := 4) (s := 2) (by omega) (by omega) (show dN X = dN Y by rw [hX.n, hY.n])
  have a6 : AgB X Y 6 8 := rdN_ag (a := 6) (s := 2) (by omega) (by omega) (show dSp X = dSp Y by rw [hX.sp, hY.sp])
  have a8 : AgB X Y 8 12 := rdN_ag (a := 8) (s := 4) (by omega) (by omega) (show dLsn X = dLsn Y by rw [hX.hlsn, hY.hlsn])
  have h12 : AgB X Y 0 12 := ((((a0.join a1).join a2).join a4).join a6).join a8
  have hc := ctrs_ag (X := X) (Y := Y) cs.length (by omega) (by omega) fun i hi => by rw [hX.c i hi, hY.c i hi]
  have hg := grps_ag (X := X) (Y := Y) gs.length (by omega) (by omega) fun i hi => by rw [hX.g i hi, hY.g i hi]
  have hz : AgB X Y (16 + 32 * cs.length + 12 * gs.length) 1024 := fun i i1 i2 => by rw [hX.z i i1 i2, hY.z i i1 i2]
  have h16 : AgB X Y 16 1024 := by
    rcases h1 with h0 | h0
    · rw [h0] at hz
      exact hg.join (hz.mono (by omega) (by omega))
    · rw [h0] at hz
      exact hc.join (hz.mono (by omega) (by omega))
  have hps := psumN_ag (by omega) h12 (by rw [lx]; exact h16)
  have a12 : AgB X Y 12 16 := rdN_ag (a := 12) (s := 4) (by omega) (by omega) (show dSum X = dSum Y by rw [hX.sum, hY.sum, hps])
  have hall := (h12.join a12).join h16
  apply List.ext_getElem?
  intro i
  by_cases hi : i < 1024
  · exact hall i (by omega) hi
  · rw [List.getElem?_eq_none (by omega), List.getElem?_eq_none (by omega)]

theorem firstF_of : ∀ {l : List Nat}, (∀ e ∈ l, e = 0) → firstF l = 0
  | [], _ => rfl
  | x :: r, h => by
    unfold firstF
    rw [if_pos (h x (List.mem_cons_self ..))]
    exact firstF_of fun e he => h e (List.mem_cons_of_mem _ he)
theorem cont_of_right {num lsn : Int} {cs : List CL} {gs : List GL} (h : Right num lsn cs gs) : contP cs gs = 0 := by
  refine firstF_of fun e he => ?_
  rcases List.mem_append.1 he with he | he
  · obtain ⟨c, hc, rfl⟩ := List.mem_map.1 he; exact h.fc c hc
  · obtain ⟨c, hc, rfl⟩ := List.mem_map.1 he; exact h.fg c hc
theorem ref_of_right {num lsn : Int} {cs : List CL} {gs : List GL} (h : Right num lsn cs gs) : refP num lsn cs gs = 0 := by
  have h0 := cont_of_right h
  obtain ⟨h1, h2, h3, h4, h5, h6, h7, h8⟩ := h
  unfold refP
  rw [if_neg (by omega), if_neg (by omega), if_neg (by omega), if_neg (by omega), h0]

theorem csK_ok (B : List UInt8) (k : Nat) : ∀ x ∈ csK B k, x.Ok := by
  intro x hx
  unfold csK at hx
  split at hx
  · cases hx
  · obtain ⟨i, _, rfl⟩ := List.mem_map.1 hx
    exact ⟨i64_in _, i64_in _, i64_in _, i64_in _, i64_in _⟩
theorem gsK_ok (B : List UInt8) (k : Nat) : ∀ x ∈ gsK B k, x.Ok := by
  intro x hx
  unfold gsK at hx
  split at hx
  · obtain ⟨i, _, rfl⟩ := List.mem_map.1 hx
    exact ⟨i64_in _, i64_in _⟩
  · cases hx

theorem decF_parts {B : List UInt8} {num : Int} (h : decF B num = 0) (hz : allZ B = false) : (0 ≤ num ∧ num ≤ 63) ∧ B.length = 1024 ∧ byteN B 0 = 113 ∧ (byteN B 1 = 1 ∨ byteN B 1 = 2) ∧ dSum B = psumN B ∧ (dNum B : Int) = num ∧ (1 ≤ dN B ∧ dN B ≤ dMost B) ∧ (1 ≤ dLsn B ∧ dLsn B ≤ 2147483647) ∧ contP (decCs B) (decGs B) = 0 ∧ dSp B = 0 ∧ allZ (B.drop (16 + dN B * dWide B)) = true := by
  unfold decF at h
  split at h
  · cases h
  rename_i g1
  split at h
  · cases h
  rename_i g2
  rw [if_neg (by rw [hz]; decide)] at h
  split at h
  · cases h
  rename_i g3
  split at h
  · cases h
  rename_i g4
  split at h
  · cases h
  rename_i g5
  split at h
  · cases h
  rename_i g6
  split at h
  · cases h
  rename_i g7
  split at h
  · rename_i g8; exact absurd h g8
  rename_i g8
  split at h
  · cases h
  rename_i g9
  refine ⟨by omega, by omega, by omega, by omega, by omega, by omega, by omega, by omega, by omega, by omega, ?_⟩
  cases hh : allZ (B.drop (16 + dN B * dWide B))
  · exact absurd (.inr hh) g9
  · rfl

theorem dec_right {B : List UInt8} {num : Int} (h : decF B num = 0) (hz : allZ B = false) :
    PgB B num.toNat (dLsn B) (decCs B) (decGs B) ∧ Right num (dLsn B) (decCs B) (decGs B) ∧ (decCs B).length + (decGs B).length ≠ 0 := by
  obtain ⟨g1, g2, g3, g4, g5, g6, g7, g8, g9, g10, g11⟩ := decF_parts h hz
  obtain ⟨f1, f2⟩ := contP_zero g9
  have hcl : (decCs B).length = if byteN B 1 = 2 then 0 else dN B := csK_len B _
  have hgl : (decGs B).length = if byteN B 1 = 2 then dN B else 0 := gsK_len B _
  have hm := g7.2
  unfold dMost at hm
  unfold dWide at g11
  by_cases hk : byteN B 1 = 2
  · rw [if_pos hk] at hcl hgl hm g11
    refine ⟨⟨g2, g3, ?_, by omega, by omega, g10, rfl, g5, fun i hi => by omega, fun i hi => ?_, fun i i1 i2 => allZ_get g11 i (by omega) (by omega)⟩, ⟨g1, by omega, by omega, by omega, by omega, by omega, f1, f2⟩, by omega⟩
    · unfold kindN; rw [if_pos (by omega), hk]
    · simp only [decGs, gsK, if_pos hk, List.getElem_map, List.getElem_range]
  · rw [if_neg hk] at hcl hgl hm g11
    refine ⟨⟨g2, g3, ?_, by omega, by omega, g10, rfl, g5, fun i hi => ?_, fun i hi => by omega, fun i i1 i2 => allZ_get g11 i (by omega) (by omega)⟩, ⟨g1, by omega, by omega, by omega, by omega, by omega, f1, f2⟩, by omega⟩
    · unfold kindN; rw [if_neg (by omega)]; omega
    · simp only [decCs, csK, if_neg hk, List.getElem_map, List.getElem_range]

theorem allZ_page0 : allZ page0 = true := by
  have := allZ_of (B := page0) (k := 0) fun i _ h => page0_get i (by rw [page0_len] at h; exact h)
  rwa [List.drop_zero] at this
theorem page0_of {B : List UInt8} (h : allZ B = true) (hl : B.length = 1024) : B = page0 := by
  apply List.ext_getElem?
  intro i
  by_cases hi : i < 1024
  · rw [allZ_get (k := 0) (by rw [List.drop_zero]; exact h) i (by omega) (by omega), page0_get i hi]
  · rw [List.getElem?_eq_none (by omega), List.getElem?_eq_none (by rw [page0_len]; omega)]
theorem decF_zero {B : List UInt8} {num : Int} (hz : allZ B = true) (hl : B.length = 1024) : decF B num = if 0 ≤ num ∧ num ≤ 63 then 0 else 4 := by
  unfold decF
  by_cases hn : 0 ≤ num ∧ num ≤ 63
  · rw [if_neg (by omega), if_neg (by omega), if_pos hz, if_pos hn]
  · rw [if_pos hn, if_neg hn]
theorem decCs_zero {B : List UInt8} (hz : allZ B = true) : decCs B = [] ∧ decGs B = [] ∧ dLsn B = 0 := by
  have en : dN B = 0 := allZ_rd hz 4 2
  refine ⟨?_, ?_, allZ_rd hz 8 4⟩
  · unfold decCs; rw [en, csK_zero]
  · unfold decGs; rw [en, gsK_zero]

/-- Whatever bytes are taken are what is written of the answer. -/
theorem one_form {B : List UInt8} {num : Int} (h : decF B num = 0) : refP num (dLsn B) (decCs B) (decGs B) = 0 ∧ encO num (dLsn B) (decCs B) (decGs B) = B := by
  cases hz : allZ B
  · obtain ⟨h1, h2, h3⟩ := dec_right h hz
    refine ⟨ref_of_right h2, ?_⟩
    have h4 := enc_pgb h2 (csK_ok B _) (gsK_ok B _) h3
    have e : ((dLsn B : Int)).toNat = dLsn B := rfl
    rw [e] at h4
    exact pgb_unique h4 h1 h2.one h2.c h2.g
  · obtain ⟨c1, c2, c3⟩ := decCs_zero hz
    have hn : 0 ≤ num ∧ num ≤ 63 := by
      unfold decF at h
      split at h
      · cases h
      · omega
    have hl : B.length = 1024 := by
      unfold decF at h
      rw [if_neg (by omega)] at h
      split at h
      · cases h
      · omega
    rw [c1, c2, c3]
    have hR : Right num ((0 : Nat) : Int) [] [] := ⟨hn, .inl rfl, Nat.zero_le _, Nat.zero_le _, ⟨by omega, by omega⟩, ⟨fun _ => rfl, fun _ => rfl⟩, (fun c hc => by cases hc), (fun c hc => by cases hc)⟩
    refine ⟨ref_of_right hR, ?_⟩
    unfold encO
    rw [if_pos (show ([] : List CL).length + ([] : List GL).length = 0 from rfl)]
    exact (page0_of hz hl).symm

/-- A right page's bytes, under its number and under others. -/
theorem right_back {num lsn : Int} {cs : List CL} {gs : List GL} (hR : Right num lsn cs gs) (hc : ∀ x ∈ cs, x.Ok) (hg : ∀ x ∈ gs, x.Ok) :
    (encO num lsn cs gs).length = 1024 ∧ decCs (encO num lsn cs gs) = cs ∧ decGs (encO num lsn cs gs) = gs ∧ (dLsn (encO num lsn cs gs) : Int) = lsn ∧ decF (encO num lsn cs gs) num = 0 ∧
      (∀ n : Int, 0 ≤ n ∧ n ≤ 63 → n ≠ num → decF (encO num lsn cs gs) n = if cs.length + gs.length = 0 then 0 else 82) := by
  by_cases h0 : cs.length + gs.length = 0
  · have hcs : cs = [] := List.eq_nil_of_length_eq_zero (by omega)
    have hgs : gs = [] := List.eq_nil_of_length_eq_zero (by omega)
    have hl0 : lsn = 0 := hR.lz.2 h0
    have hn := hR.hnum
    have e : encO num lsn cs gs = page0 := by unfold encO; rw [if_pos h0]
    rw [e]
    obtain ⟨c1, c2, c3⟩ := decCs_zero allZ_page0
    refine ⟨page0_len, by rw [c1, hcs], by rw [c2, hgs], by rw [c3, hl0]; rfl, by rw [decF_zero allZ_page0 page0_len, if_pos hn], fun n h1 h2 => by rw [decF_zero allZ_page0 page0_len, if_pos h1, if_pos h0]⟩
  · have hB := enc_pgb hR hc hg h0
    have hl1 : 1 ≤ lsn := by have := hR.lz; have := hR.hlsn; omega
    have hl2 := hR.hlsn
    have hn := hR.hnum
    obtain ⟨d1, d2, d3, d4⟩ := pgb_dec hB hR.one hR.c hR.g h0 (by omega) (cont_of_right hR)
    refine ⟨hB.len, d1, d2, by rw [hB.hlsn]; omega, by rw [d4 num hn, if_pos (by omega)], fun n h1 h2 => by rw [d4 n h1, if_neg (by omega), if_neg h0]⟩

/-- One bit turned. -/
def turnB (B : List UInt8) (j : Nat) (x : UInt8) : List UInt8 := B.set j (B.getD j 0 ^^^ x)

theorem bitAt_mask {X Y : List UInt8} {j k p : Nat} (hk : k < 8) (hj : j < X.length) (hset : Y = X.set j (UInt8.ofNat ((X.getD j 0).toNat ^^^ 2 ^ k))) (hp : p < 8 * X.length) : bitAt Y p = Bool.xor (bitAt X p) (decide (p = 8 * j + k)) := by
  unfold bitAt
  subst hset
  have hx := u8_lt (X.getD j 0)
  have h2k : 2 ^ k < 256 := by
    have : 2 ^ k ≤ 2 ^ 7 := Nat.pow_le_pow_right (by omega) (by omega)
    omega
  by_cases he : p / 8 = j
  · have hg : (X.set j (UInt8.ofNat ((X.getD j 0).toNat ^^^ 2 ^ k))).getD (p / 8) 0 = UInt8.ofNat ((X.getD j 0).toNat ^^^ 2 ^ k) := by
      rw [he, List.getD_eq_getElem?_getD, List.getElem?_set_self (by omega)]
      rfl
    have hlt : (X.getD j 0).toNat ^^^ 2 ^ k < 256 := Nat.xor_lt_two_pow (n := 8) hx h2k
    rw [hg, he]
    have e : (UInt8.ofNat ((X.getD j 0).toNat ^^^ 2 ^ k)).toNat = (X.getD j 0).toNat ^^^ 2 ^ k := by
      rw [UInt8.toNat_ofNat']
      exact Nat.mod_eq_of_lt hlt
    rw [e, Nat.testBit_xor, Nat.testBit_two_pow]
    congr 1
    apply decide_eq_decide.2
    omega
  · have hg : (X.set j (UInt8.ofNat ((X.getD j 0).toNat ^^^ 2 ^ k))).getD (p / 8) 0 = X.getD (p / 8) 0 := by
      rw [List.getD_eq_getElem?_getD, List.getElem?_set_ne (by omega), List.getD_eq_getElem?_getD]
    rw [hg]
    have : decide (p = 8 * j + k) = false := decide_eq_false (by omega)
    rw [this, Bool.xor_false]

theorem sum_bit {X Y : List UInt8} {j k : Nat} (hk : k < 8) (hj : j < X.length) (h4 : 4 ≤ X.length) (hset : Y = X.set j (UInt8.ofNat ((X.getD j 0).toNat ^^^ 2 ^ k))) : sumN Y ≠ sumN X := by
  have hat : min (8 * j + k) (8 * X.length - 32) + 32 ≤ 8 * X.length := by omega
  refine sum_turned (at_ := min (8 * j + k) (8 * X.length - 32)) (m := 2 ^ (8 * j + k - min (8 * j + k) (8 * X.length - 32))) (by rw [hset, List.length_set]) hat (by have := Nat.two_pow_pos (8 * j + k - min (8 * j + k) (8 * X.length - 32)); omega) ?_ fun p hp => ?_
  · have : 2 ^ (8 * j + k - min (8 * j + k) (8 * X.length - 32)) ≤ 2 ^ 31 := Nat.pow_le_pow_right (by omega) (by omega)
    omega
  · rw [bitAt_mask hk hj hset hp, Nat.testBit_two_pow]
    congr 1
    by_cases he : p = 8 * j + k
    · have h1 : decide (p = 8 * j + k) = true := decide_eq_true he
      have h2 : decide (min (8 * j + k) (8 * X.length - 32) ≤ p ∧ p < min (8 * j + k) (8 * X.length - 32) + 32) = true := decide_eq_true (by omega)
      have h3 : decide (8 * j + k - min (8 * j + k) (8 * X.length - 32) = p - min (8 * j + k) (8 * X.length - 32)) = true := decide_eq_true (by omega)
      rw [h1, h2, h3]
      rfl
    · have h1 : decide (p = 8 * j + k) = false := decide_eq_false he
      rw [h1]
      by_cases h4 : min (8 * j + k) (8 * X.length - 32) ≤ p ∧ p < min (8 * j + k) (8 * X.length - 32) + 32
      · have h3 : decide (8 * j + k - min (8 * j + k) (8 * X.length - 32) = p - min (8 * j + k) (8 * X.length - 32)) = false := decide_eq_false (by omega)
        rw [h3, Bool.and_false]
      · have h2 : decide (min (8 * j + k) (8 * X.length - 32) ≤ p ∧ p < min (8 * j + k) (8 * X.length - 32) + 32) = false := decide_eq_false h4
        rw [h2, Bool.false_and]

theorem set_ag {B : List UInt8} {j c d : Nat} {x : UInt8} (h : j < c ∨ d ≤ j) : AgB (B.set j x) B c d := fun i h1 h2 => by rw [List.getElem?_set_ne (by omega)]

/-- A right page's bytes, one bit turned: nothing is read. -/
theorem bit_turned {num lsn : Int} {cs : List CL} {gs : List GL} {Y : List UInt8} {j k : Nat} {n : Int} (hR : Right num lsn cs gs) (hc : ∀ x ∈ cs, x.Ok) (hg : ∀ x ∈ gs, x.Ok) (hj : j < 1024) (hk : k < 8)
    (hset : Y = (encO num lsn cs gs).set j (UInt8.ofNat (((encO num lsn cs gs).getD j 0).toNat ^^^ 2 ^ k))) : decF Y n ≠ 0 := by
  intro hd
  obtain ⟨hl, _, _, _, hd0, _⟩ := right_back hR hc hg
  have hBz : ∀ B, B = encO num lsn cs gs → allZ B = false → PgB B num.toNat lsn.toNat cs gs := fun B he hz => by
    subst he
    by_cases h0 : cs.length + gs.length = 0
    · have e : encO num lsn cs gs = page0 := by unfold encO; rw [if_pos h0]
      rw [e, allZ_page0] at hz
      cases hz
    · exact enc_pgb hR hc hg h0
  generalize encO num lsn cs gs = B at *
  have hYl : Y.length = 1024 := by rw [hset, List.length_set, hl]
  have h2k : 2 ^ k < 256 := by
    have : 2 ^ k ≤ 2 ^ 7 := Nat.pow_le_pow_right (by omega) (by omega)
    omega
  have hx := u8_lt (B.getD j 0)
  have hYj : byteN Y j = byteN B j ^^^ 2 ^ k := by
    unfold byteN
    rw [hset, List.getD_eq_getElem?_getD, List.getElem?_set_self (by omega)]
    simp only [Option.getD_some, UInt8.toNat_ofNat']
    exact Nat.mod_eq_of_lt (Nat.xor_lt_two_pow (n := 8) hx h2k)
  have hne : byteN B j ^^^ 2 ^ k ≠ byteN B j := by
    intro h
    have h1 := congrArg (fun t => t ^^^ byteN B j) h
    simp only [Nat.xor_self] at h1
    rw [Nat.xor_comm (byteN B j), Nat.xor_assoc, Nat.xor_self, Nat.xor_zero] at h1
    have := Nat.two_pow_pos k
    omega
  cases hzB : allZ B
  · have hP := hBz B rfl hzB
    -- not all bytes are 00
    have hzY : allZ Y = false := by
      cases h : allZ Y
      · rfl
      · have b0 : byteN Y 0 = 0 := by rw [← byteN_rd Y 0 (by omega)]; exact allZ_rd h 0 1
        have b1 : byteN Y 1 = 0 := by rw [← byteN_rd Y 1 (by omega)]; exact allZ_rd h 1 1
        by_cases hj0 : j = 0
        · have e1 : byteN Y 1 = byteN B 1 := by rw [hset]; exact (set_ag (c := 1) (d := 2) (by omega)).byteN (by omega) (by omega)
          have e2 := hP.b1
          unfold kindN at e2
          split at e2 <;> omega
        · have e0 : byteN Y 0 = byteN B 0 := by rw [hset]; exact (set_ag (c := 0) (d := 1) (by omega)).byteN (by omega) (by omega)
          have := hP.b0
          omega
    obtain ⟨_, _, _, _, s1, _⟩ := decF_parts hd hzY
    have s2 := hP.sum
    by_cases h12 : 12 ≤ j ∧ j < 16
    · have hps : psumN Y = psumN B := psumN_ag (by omega) (by rw [hset]; exact set_ag (by omega)) (by rw [hset]; exact set_ag (by omega))
      have he : dSum Y = dSum B := by omega
      have ag : AgB Y B 12 16 := rdN_ag (a := 12) (s := 4) (by omega) (by omega) he
      have := ag.byteN (c := j) (by omega) (by omega)
      omega
    · have he : dSum Y = dSum B := by
        unfold dSum
        rw [hset]
        exact (set_ag (c := 12) (d := 16) (by omega)).rdN (by omega) (by omega)
      have hps : psumN Y = psumN B := by omega
      have hmB : (mskB B).length = 1024 := by rw [mskB_len (by omega), hl]
      have hgj : (mskB B).getD j 0 = B.getD j 0 := by
        have e := mskB_get (B := B) (by omega) (k := j) (by omega) (by omega)
        rw [if_neg h12] at e
        apply UInt8.toNat_inj.1
        rw [getD_get (by omega), e]
        rfl
      refine sum_bit (X := mskB B) (Y := mskB Y) (j := j) (k := k) hk (by omega) (by omega) ?_ hps
      rw [hgj, hset]
      unfold mskB
      by_cases hj12 : j < 12
      · rw [List.take_set, List.drop_set_of_lt (by omega), List.set_append_left _ _ (by simp; omega)]
      · have hj16 : 16 ≤ j := by omega
        rw [List.take_set, List.set_eq_of_length_le (by simp; omega), List.drop_set, if_neg (by omega), List.set_append_right _ _ (by simp; omega), List.set_append_right _ _ (by simp; omega)]
        congr 3
        simp
        omega
  · -- an empty page
    have hBj : byteN B j = 0 := by rw [← byteN_rd B j (by omega)]; exact allZ_rd hzB j 1
    have hzY : allZ Y = false := by
      cases h : allZ Y
      · rfl
      · have : byteN Y j = 0 := by rw [← byteN_rd Y j (by omega)]; exact allZ_rd h j 1
        omega
    obtain ⟨_, _, b0, b1, _⟩ := decF_parts hd hzY
    by_cases hj0 : j = 0
    · have e1 : byteN Y 1 = byteN B 1 := by rw [hset]; exact (set_ag (c := 1) (d := 2) (by omega)).byteN (by omega) (by omega)
      have : byteN B 1 = 0 := by rw [← byteN_rd B 1 (by omega)]; exact allZ_rd hzB 1 1
      omega
    · have e0 : byteN Y 0 = byteN B 0 := by rw [hset]; exact (set_ag (c := 0) (d := 1) (by omega)).byteN (by omega) (by omega)
      have : byteN B 0 = 0 := by rw [← byteN_rd B 0 (by omega)]; exact allZ_rd hzB 0 1
      omega
end Go.Proofs.YtnkdonpammdldaaDoor
