/- The statement FieldExact, walked: it answers true. Conditions: the checksum's table stands. -/
import Derived.Test.YtplfoedgekdjgaaDoorHs
set_option linter.unusedVariables false
set_option linter.unusedSimpArgs false
namespace Go.Proofs.YtplfoedgekdjgaaDoor
open Go Go.RowKit

set_option maxRecDepth 20000 in
theorem plays_c {w0 w : World} {ow : Nat → Nat} {tb M n : Nat} {o : OpL} {A : List UInt8} {L : List Part} {R : Ending → World → Prop} (hnib : Nib w0) (hold : Old w0 w ow) (hT : TabI w ow tb M n) (ho : o.ok) (hA : o.Bs w0 A)
    (hP : PsIn w0 o.pa L) (hLl : L.length = o.pl) (hM : M ≤ 10000) (hn : n + 2 ≤ 1000)
    (h : ∀ w' ow', Old w0 w' ow' → TabI w' ow' tb (M + 10) (n + 2) → R (.returned (.bool true)) w') : GoC Tryd.prog F_law02_Table_plays #[.pointer (some ⟨tb, 0, none⟩), .agg o.cs] w R := by
  refine S_law02_Table_plays ?_
  unfold W_law02_Table_plays
  refine AlF.intro fun b1 w1 hb1e hb1 k1 _ => ?_
  refine ⟨o.ba, o.bl, o.bc, by rw [add_at]; exact hb1.cell 6, ?_⟩
  refine cut_c hA.cap ⟨_, _, _, rfl, ?_⟩
  rw [add_at]
  refine StF.intro (o := 0 + 6) hb1 (by show 0 + 6 < 8; omega) fun w3 hb3 k3 s3 => ?_
  have hA' : ({ o with bl := min o.bl 4000 } : OpL).Bs w0 (A.take 4000) := by
    refine ⟨by rw [bvs, List.map_take]; exact hA.rd.take 4000, by rw [List.length_take, hA.len]; dsimp only; omega, fun hh => by have := hA.nil hh; dsimp only; omega, by have := hA.cap; dsimp only; omega⟩
  have ho' : ({ o with bl := min o.bl 4000 } : OpL).ok := ho
  have hbl : ({ o with bl := min o.bl 4000 } : OpL).bl ≤ 4000 := by dsimp only; omega
  have hb3' : Blk w3 b1 ({ o with bl := min o.bl 4000 } : OpL).cs T_quotalaw02_Op := hb3
  have hpa : ({ o with bl := min o.bl 4000 } : OpL).pa = o.pa := rfl
  have k13 : Kp no w w3 := k1.trans k3 (fun _ _ h => h) fun k hk hh => by omega
  have f3 : Fro (fun _ => True) w ow w3 (ext ow w.heap.size 99) := Fro.of_kp0 99 k13
  obtain ⟨p, s, r, d, l, m, hT0⟩ := hT
  have hT3 := hT0.fr f3 (fun _ _ => trivial) (Nat.le_refl _) (Nat.le_refl _)
  have hold3 := hold.fr f3 trivial
  generalize ext ow w.heap.size 99 = ow3 at *
  have weak : ∀ w' ow', Old w0 w' ow' → TabI w' ow' tb M n → R (.returned (.bool true)) w' := by
    rintro w' ow' h1 ⟨p, s, r, d, l, m, hT'⟩
    have fid : Fro (fun _ => True) w' ow' w' ow' := ⟨(Kp.refl _ _).mono fun _ _ h => h, fun _ _ _ => rfl⟩
    exact h w' ow' h1 ⟨p, s, r, d, l, m, hT'.fr fid (fun _ _ => trivial) (by omega) (by omega)⟩
  have quiet : ∀ w', Kp no w3 w' → R (.returned (.bool true)) w' := fun w' kk => by
    have f' : Fro (fun _ => True) w3 ow3 w' (ext ow3 w3.heap.size 99) := Fro.of_kp0 99 kk
    exact weak w' _ (hold3.fr f' trivial) ⟨p, s, r, d, l, m, hT3.fr f' (fun _ _ => trivial) (Nat.le_refl _) (Nat.le_refl _)⟩
  refine ⟨o.kind, hb3'.cell 0, ?_⟩
  refine ⟨fun _ w' => w' = w3, ?_, ?_⟩
  · exact cond_b (fun _ => rfl) fun _ => cond_b (fun _ => rfl) fun _ => cond_b (fun _ => rfl) fun _ => rfl
  rintro ⟨q7, u7⟩ w4 hw4 _
  rw [hw4]
  dsimp only
  refine cond_b (fun _ => ?_) (fun _ => ?_)
  · refine ⟨_, _, o.n, _, _, _, _, _, _, _, _, _, ⟨hb3'.cell 0, by rw [add_at]; exact hb3'.cell 1, by rw [add_at]; exact hb3'.cell 2, by rw [add_at]; exact hb3'.cell 3, by rw [add_at]; exact hb3'.cell 4, by rw [add_at]; exact hb3'.cell 5, hb3'.cell 6, by rw [add_at]; exact hb3'.cell 7, trivial⟩, ?_⟩
    exact writes_c (o := { o with bl := min o.bl 4000 }) hold3 ⟨p, s, r, d, l, m, hT3⟩ ho' hM hn fun w' ow' h1 h2 => ⟨_, rfl, h w' ow' h1 h2⟩
  refine ⟨fun _ w' => w' = w3, ?_, ?_⟩
  · exact cond_b (fun _ => rfl) fun _ => cond_b (fun _ => rfl) fun _ => cond_b (fun _ => rfl) fun _ => cond_b (fun _ => rfl) fun _ => rfl
  rintro ⟨q13, u13⟩ w6 hw6 _
  rw [hw6]
  dsimp only
  refine cond_b (fun _ => ?_) (fun _ => ?_)
  · refine ⟨_, _, o.n, _, _, _, _, _, _, _, _, _, ⟨hb3'.cell 0, by rw [add_at]; exact hb3'.cell 1, by rw [add_at]; exact hb3'.cell 2, by rw [add_at]; exact hb3'.cell 3, by rw [add_at]; exact hb3'.cell 4, by rw [add_at]; exact hb3'.cell 5, hb3'.cell 6, by rw [add_at]; exact hb3'.cell 7, trivial⟩, ?_⟩
    exact reads_c (o := { o with bl := min o.bl 4000 }) hold3 ⟨p, s, r, d, l, m, hT3⟩ ho' hA' hbl fun w' ow' h1 h2 => ⟨_, rfl, weak w' ow' h1 h2⟩
  refine cond_b (fun _ => ?_) (fun _ => ?_)
  · refine ⟨o.pa, o.pl, o.pc, by rw [add_at]; exact hb3'.cell 7, ?_⟩
    exact sums_c (hnib.kp0 hold3.kp) (hP.kp0 hold3.kp) hLl fun w' kk => ⟨_, rfl, quiet w' kk⟩
  refine ⟨fun _ w' => w' = w3, ?_, ?_⟩
  · exact cond_b (fun _ => rfl) fun _ => rfl
  rintro ⟨q18, u18⟩ w9 hw9 _
  rw [hw9]
  dsimp only
  refine cond_b (fun _ => ?_) (fun _ => quiet w3 (Kp.refl _ _))
  refine ⟨_, _, o.n, _, _, _, _, _, _, _, _, _, ⟨hb3'.cell 0, by rw [add_at]; exact hb3'.cell 1, by rw [add_at]; exact hb3'.cell 2, by rw [add_at]; exact hb3'.cell 3, by rw [add_at]; exact hb3'.cell 4, by rw [add_at]; exact hb3'.cell 5, hb3'.cell 6, by rw [add_at]; exact hb3'.cell 7, trivial⟩, ?_⟩
  exact puts_c (o := { o with bl := min o.bl 4000 }) ho' (hA'.kp0 hold3.kp) hbl fun w' kk => ⟨_, rfl, quiet w' kk⟩

/-- A script, as it stands in memory. -/
def OpsIn (w : World) (a : Option Addr) (S : List OpL) : Prop := ∀ i (h : i < S.length), ∃ b o A L, a = some ⟨b, o, none⟩ ∧ (∀ q v, (S[i]).cs[q]? = some v → w.cell? ⟨b, o + i * 8 + q, none⟩ = some v) ∧ (S[i]).ok ∧ (S[i]).Bs w A ∧ PsIn w (S[i]).pa L ∧ L.length = (S[i]).pl

def nilS : Value := .slice none 0 0
/-- The table as it is being made: the first i of its pairs are there. -/
def MadeI (w : World) (ow : Nat → Nat) (tb i : Nat) : Prop :=
  ∃ p r d : Bool → Value, Blk w tb (tabCs p (fun _ => nilS) r d nilS nilS) T_quotalaw02_Table ∧ ow tb = 1 ∧ ∀ j, ix j < i → WrI w ow (tw j) 0 (p j) nilS ∧ RdI w ow (tr j) (r j) (d j)

set_option maxRecDepth 20000 in
set_option maxHeartbeats 1000000 in
theorem fieldExact_c {w : World} {a1 : Option Addr} {l1 c1 : Nat} {S : List OpL} {R : Ending → World → Prop} (hnib : Nib w) (hS : OpsIn w a1 S) (hSl : S.length = l1)
    (h : ∀ w', Kp no w w' → R (.returned (.bool true)) w') : GoC Tryd.prog F_law02_FieldExact #[.slice a1 l1 c1] w R := by
  refine S_law02_FieldExact ?_
  unfold W_law02_FieldExact
  refine awake_c hnib fun w1 k1 => ⟨_, rfl, cond_f rfl ?_⟩
  refine AlF.intro fun tb w2 htbe htb k2 _ => ?_
  have k12 := k1.trans0 k2
  have old2 : Old w w2 (ext (fun _ => 0) w.heap.size 1) := ⟨k12, fun k hk => ext_old hk⟩
  have s1 := k1.size
  refine loopN (fun s w' => ∃ (i : Nat) (ow : Nat → Nat), s.1 = (i : Int) ∧ i ≤ 2 ∧ Old w w' ow ∧ MadeI w' ow tb i) (fun s _ => 2 - s.1.toNat)
    ⟨0, _, rfl, by omega, old2, fun _ => .pointer none, fun _ => .pointer none, fun _ => .pointer none, htb, ext_new (by omega), fun j hj => by omega⟩ ?_
  rintro ⟨i0, u⟩ w3 ⟨i, ow, hi0, hi2, hold, p, r, d, hb3, hown, hall⟩ _
  dsimp only at hi0 ⊢
  subst hi0
  refine cond_d (fun hlt => ?_) (fun hge => ?_)
  · obtain ⟨j, rfl⟩ : ∃ j, i = ix j := by
      rcases Nat.lt_or_ge i 1 with h1 | h1
      · exact ⟨false, by unfold ix; simp; omega⟩
      · exact ⟨true, by unfold ix; simp; omega⟩
    have hix := ix_lt j
    have htbl := hb3.lt
    refine ⟨fun _ => True, trivial, ?_⟩
    refine newWriter_c fun B w4 hw4 k4 hB => ⟨_, rfl, trivial, by omega, hix, ?_⟩
    have k34 : Kp no w3 w4 := (Kp.drew w3 1).trans0 k4
    have s34 := k34.size
    have hB3 : w3.heap.size ≤ B := hB
    refine st_p (k34.blk hb3 id) fun w5 hb5 k5 s5 => ⟨trivial, fun _ => True, trivial, ?_⟩
    refine newReader_c (bs := []) (Rd.nil _ _) rfl (fun _ => rfl) (by omega) fun B2 g2 w6 hr6 k6 hB2 hf2 => ⟨_, rfl, trivial, by omega, hix, ?_⟩
    have k56 : Kp no w5 w6 := (Kp.drew w5 1).trans0 k6
    have s56 := k56.size
    have hB25 : w5.heap.size ≤ B2 := hB2
    have hf25 : ∀ k, Is g2 k → w5.heap.size ≤ k := hf2
    refine st_r (k56.blk hb5 id) fun w7 hb7 k7 s7 => ⟨trivial, fun _ => True, trivial, ?_⟩
    refine refNewReader_c (bs := []) (Rd.nil _ _) rfl (fun _ => rfl) (by omega) fun B3 g3 w8 hf8 k8 hB3' hf3 => ⟨_, rfl, trivial, by omega, hix, ?_⟩
    have k78 : Kp no w7 w8 := (Kp.drew w7 1).trans0 k8
    have s78 := k78.size
    have hB37 : w7.heap.size ≤ B3 := hB3'
    have hf37 : ∀ k, Is g3 k → w7.heap.size ≤ k := hf3
    refine st_d (k78.blk hb7 id) fun w9 hb9 k9 s9 => ⟨trivial, by omega, hix, some ⟨B, 0, none⟩, by rw [tab_p hb9]; simp [updB], cond_f rfl ?_⟩
    refine ⟨by omega, hix, some ⟨B2, 0, none⟩, by rw [tab_r hb9]; simp [updB], cond_f rfl ?_⟩
    have hwi : IntKind.wrap .i64 (((ix j : Nat) : Int) + 1) = ((ix j + 1 : Nat) : Int) := by rw [wrap_i64 (by omega) (by omega)]; omega
    rw [hwi]
    have old : ∀ k, k < w3.heap.size → ext (ext (ext ow w3.heap.size (tw j)) w5.heap.size (tr j)) w7.heap.size (tr j + 1) k = ow k := fun k hk => by rw [ext_old (by omega), ext_old (by omega), ext_old hk]
    have fro : Fro (fun t => t ≠ 1) w3 ow w9 (ext (ext (ext ow w3.heap.size (tw j)) w5.heap.size (tr j)) w7.heap.size (tr j + 1)) := by
      refine ⟨?_, fun k hk _ => old k hk⟩
      have u1 : Kp (fun k => k = tb) w3 w9 := ((((k34.of_no.trans0 k5).trans0 k56.of_no).trans0 k7).trans0 k78.of_no).trans0 k9
      exact u1.mono fun k _ hk ht => ht (by subst hk; exact hown)
    have nW : ∀ k, fpW B none k → k = B := by
      rintro k (rfl | hk)
      · rfl
      · exact (not_is_none hk).elim
    have nR : ∀ k, fpW B2 g2 k → w5.heap.size ≤ k := by
      rintro k (rfl | hk)
      · exact hB25
      · exact hf25 k hk
    have nF : ∀ k, fpW B3 g3 k → w7.heap.size ≤ k := by
      rintro k (rfl | hk)
      · exact hB37
      · exact hf37 k hk
    have hBlt : B < w4.heap.size := hw4.lt B (.inl rfl)
    have hrlt := hr6.lt
    refine ⟨⟨ix j + 1, _, rfl, by omega, hold.fr fro (by omega), updB p j (.pointer (some ⟨B, 0, none⟩)), updB r j (.pointer (some ⟨B2, 0, none⟩)), updB d j (.pointer (some ⟨B3, 0, none⟩)), hb9, by rw [old tb htbl, hown], fun i hi => ?_⟩, by simp only [Int.toNat_natCast]; omega⟩
    by_cases hij : i = j
    · subst hij
      constructor
      · refine ⟨B, none, [], none, 0, by simp [updB], rfl, by simp, ?_, Sl.nil _ _ _, fun k hk => ?_, fun k hk => (not_is_none hk).elim⟩
        · exact ((((hw4.kp k5 fun k hk => by have := nW k hk; omega).kp0 k56).kp k7 fun k hk => by have := nW k hk; omega).kp0 k78).kp k9 fun k hk => by have := nW k hk; omega
        · rw [nW k hk, ext_old (by omega), ext_old (by omega), ext_new hB3]
      · refine ⟨B2, g2, B3, g3, [], 0, 0, by simp [updB], by simp [updB], by simp, ?_, ?_, fun k hk => ?_, fun k hk => ext_new (nF k hk)⟩
        · exact ((hr6.kp k7 fun k hk => by have := nR k hk; omega).kp0 k78).kp k9 fun k hk => by have := nR k hk; omega
        · exact hf8.kp k9 fun k hk => by have := nF k hk; omega
        · rw [ext_old (by have := hrlt k hk; omega), ext_new (nR k hk)]
    · have hii : ix i < ix j := by
        cases i <;> cases j <;> first | exact absurd rfl hij | (simp [ix] at hi ⊢)
      have hti := tw_le i
      have htr := tr_le i
      have e1 : updB p j (.pointer (some ⟨B, 0, none⟩)) i = p i := by simp [updB, hij]
      have e2 : updB r j (.pointer (some ⟨B2, 0, none⟩)) i = r i := by simp [updB, hij]
      have e3 : updB d j (.pointer (some ⟨B3, 0, none⟩)) i = d i := by simp [updB, hij]
      rw [e1, e2, e3]
      obtain ⟨h1, h2⟩ := hall i hii
      exact ⟨h1.fr fro (by omega) (by omega) (Nat.le_refl _), h2.fr fro (by omega) (by omega)⟩
  have hi2' : i = 2 := by omega
  subst hi2'
  have hix2 : ∀ j, ix j < 2 := fun j => by cases j <;> decide
  have hTab : TabI w3 ow tb 0 0 := ⟨p, fun _ => nilS, r, d, nilS, nilS, hb3, hown, fun j => (hall j (hix2 j)).1, fun j => (hall j (hix2 j)).2,
    none, 0, none, 0, [], rfl, rfl, by simp, Sl.nil _ _ _, Sl.nil _ _ _, fun k hk => (not_is_none hk).elim, fun k hk => (not_is_none hk).elim, fun k hk => by simp at hk⟩
  refine loopN (fun s w' => ∃ (i : Nat) (ow : Nat → Nat), s.1 = (i : Int) ∧ Old w w' ow ∧ i ≤ 200 ∧ TabI w' ow tb (10 * i) (2 * i)) (fun s _ => l1 - s.1.toNat) ⟨0, ow, rfl, hold, by omega, hTab⟩ ?_
  rintro ⟨i0, u⟩ w10 ⟨i, ow', hi0, hold', hi200, hT⟩ _
  dsimp only at hi0 ⊢
  subst hi0
  refine cond_d (fun hlt => cond_d (fun hlt2 => ?_) fun _ => h _ hold'.kp) fun _ => h _ hold'.kp
  have hiS : i < S.length := by omega
  obtain ⟨b, o, A, L, ha, hc, hok, hB, hP, hLl⟩ := hS i hiS
  have cell : ∀ q v, (S[i]).cs[q]? = some v → w10.cell? (Addr.add ((⟨b, o, none⟩ : Addr).add (Int.toNat (i : Int) * 8)) q) = some v := fun q v hv => by
    rw [Int.toNat_natCast, add_at, add_at]
    exact hold'.kp.cell (hc q v hv) id
  have cell0 : w10.cell? ((⟨b, o, none⟩ : Addr).add (Int.toNat (i : Int) * 8)) = some (.int .i64 (S[i]).kind) := by
    rw [Int.toNat_natCast, add_at]
    exact hold'.kp.cell (hc 0 _ rfl) id
  refine ⟨by omega, hlt, _, ha, (S[i]).kind, (S[i]).wh, (S[i]).n, (S[i]).i, (S[i]).at_, (S[i]).size, (S[i]).ba, (S[i]).bl, (S[i]).bc, (S[i]).pa, (S[i]).pl, (S[i]).pc, ⟨cell0, cell 1 _ rfl, cell 2 _ rfl, cell 3 _ rfl, cell 4 _ rfl, cell 5 _ rfl, cell 6 _ rfl, cell 7 _ rfl, trivial⟩, ?_⟩
  refine plays_c (o := S[i]) hnib hold' hT hok hB hP hLl (by omega) (by omega) fun w11 ow11 hold11 hT11 => ⟨_, rfl, cond_f rfl ?_⟩
  obtain ⟨p, s, r, d, l, m, hT11⟩ := hT11
  refine holds_c hT11.blk rfl rfl hT11.bk (by omega) fun w12 k12 => ⟨_, rfl, cond_f rfl ?_⟩
  have hwi : IntKind.wrap .i64 ((i : Int) + 1) = ((i + 1 : Nat) : Int) := by rw [wrap_i64 (by omega) (by omega)]; omega
  rw [hwi]
  have f' : Fro (fun _ => True) w11 ow11 w12 (ext ow11 w11.heap.size 99) := Fro.of_kp0 99 k12
  exact ⟨⟨i + 1, _, rfl, hold11.fr f' trivial, by omega, p, s, r, d, l, m, hT11.fr f' (fun _ _ => trivial) (by omega) (by omega)⟩, by simp only [Int.toNat_natCast]; omega⟩
end Go.Proofs.YtplfoedgekdjgaaDoor
