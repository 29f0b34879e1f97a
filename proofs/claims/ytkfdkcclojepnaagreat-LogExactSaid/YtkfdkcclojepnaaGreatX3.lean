/- Texts for LogExact, as one. Conditions: none. -/
import Derived.Test.YtkfdkcclojepnaaGreatX2
import Derived.Test.YtkfdkcclojepnaaGreatX1
import Derived.Test.YtkfdkcclojepnaaGreatM2
set_option linter.unusedVariables false
set_option linter.unusedSimpArgs false
namespace Go.Proofs.YtkfdkcclojepnaaGreat
open Go Go.RowKit
theorem tmod_brought {n m : Int} (hm : 0 < m) : (if Int.tmod n m < 0 then Int.tmod n m + m else Int.tmod n m) = n % m := by
  have h1 := Int.emod_nonneg n (by omega : m ≠ 0)
  have h2 := Int.emod_lt_of_pos n hm
  have h3 := Int.lt_tmod_of_pos n hm
  have h4 := Int.tmod_lt_of_pos n hm
  have e1 := Int.mul_tdiv_add_tmod n m
  have e2 := Int.mul_ediv_add_emod n m
  have key : ∀ a : Int, 0 ≤ a → a < m → ∀ q : Int, m * q + a = n → a = n % m := fun a ha0 ha1 q hq => by
    rw [← hq, Int.mul_add_emod_self_left, Int.emod_eq_of_lt ha0 ha1]
  split
  · rename_i hneg
    refine key _ (by omega) (by omega) (Int.tdiv n m - 1) ?_
    rw [Int.mul_sub]
    omega
  · rename_i hneg
    exact key _ (by omega) (by omega) (Int.tdiv n m) (by omega)
theorem brought_c {w : World} {n m : Int} {R : Po} (h1 : 1 ≤ m) (h2 : m ≤ 1000000000000) (h : R (.returned (.int .i64 (n % m))) w) : GoC Tryz.prog F_law06_brought #[.int .i64 n, .int .i64 m] w R := by
  refine S_law06_brought ?_
  unfold W_law06_brought
  have hm : 0 < m := by omega
  have h3 := Int.lt_tmod_of_pos n hm
  have h4 := Int.tmod_lt_of_pos n hm
  have hb := tmod_brought (n := n) hm
  refine ⟨by omega, cond_d (fun hn => ?_) (fun hn => ?_)⟩
  · rw [if_pos hn] at hb
    rw [wrap_i64 (by omega) (by omega), hb]
    exact h
  · rw [if_neg hn] at hb
    rw [hb]
    exact h
theorem emod_in (n : Int) {m : Int} (hm : 1 ≤ m) : 0 ≤ n % m ∧ n % m < m := ⟨Int.emod_nonneg n (by omega), Int.emod_lt_of_pos n (by omega)⟩
theorem dot_c {w : World} {p i n : Int} {R : Po} (h1 : 1 ≤ n) (h2 : n ≤ 1000) (h : ∀ w', Kp no w w' → R (.returned (.agg #[.int .i64 (p % 64), .int .i64 (i % n)])) w') : GoC Tryz.prog F_law06_dot #[.agg #[.int .i64 p, .int .i64 i], .int .i64 n] w R := by
  refine S_law06_dot ?_
  unfold W_law06_dot
  refine Loc.al (Kp.refl _ w) fun b1 w1 h1' k1 g1 => Loc.al h1'.kp fun b2 w2 h2' k2 g2 => ?_
  have h12 := h1'.kp' k2
  have h22 : Loc w w2 b2 #[.int .i64 0, .int .i64 0] T_api_Slot := h2'
  have kd : Kp no w2 w2.drew := Kp.drew w2 1
  have hne : b1 ≠ b2 := by have := h1'.blk.lt; omega
  have x1 := kd.blk h12.blk id
  refine ⟨fun w' => Blk w' b1 #[.int .i64 p, .int .i64 i] T_api_Slot, x1, _, fun w' hw => hw.at rfl rfl, _, fun w' hw => hw.at rfl rfl, ?_⟩
  refine brought_c (by omega) (by omega) ⟨_, rfl, x1, brought_c h1 (by omega) ⟨_, rfl, x1, ?_⟩⟩
  have h23 := h22.kp' kd
  refine h23.st rfl (by simp) fun w3 h24 k3 => h24.st (by rfl) (by simp) fun w4 h25 k4 => ?_
  have y := k4.blk (k3.blk x1 hne) hne
  exact ⟨y, _, _, ⟨h25.at rfl rfl, h25.at rfl rfl, trivial⟩, h w4 h25.kp⟩
def ptV (m : Mm) (next : Int) : Array Value := #[.slice m.la m.ll m.lc, .slice m.da m.dl m.dc, .int .i64 next]
def ltx (last : Int) : List LV → Int
  | [] => last
  | x :: r => ltx x.tx r
def lpg (page : Int) : List DV → Int
  | [] => page
  | x :: r => lpg x.page r
theorem ltx_snoc : ∀ (L : List LV) (last : Int) (x : LV), ltx last (L ++ [x]) = x.tx
  | [], _, _ => rfl
  | y :: r, _, x => ltx_snoc r y.tx x
theorem lpg_snoc : ∀ (L : List DV) (page : Int) (x : DV), lpg page (L ++ [x]) = x.page
  | [], _, _ => rfl
  | y :: r, _, x => lpg_snoc r y.page x
theorem liB_snoc (next lsn : Int) : ∀ (L : List LV) (last : Int) (x : LV), liB next lsn last L = true → ltx last L < x.tx → x.tx < next → 1 ≤ x.last → x.last ≤ 2147483647 → belB x.last lsn = true → (x.c && x.u) = false → liB next lsn last (L ++ [x]) = true
  | [], last, x, _, h1, h2, h3, h4, h5, h6 => by
    have h1 : last < x.tx := h1
    simp [liB, h1, h2, inB, h3, h4, h5]
    cases hc : x.c <;> cases hu : x.u <;> simp_all
  | y :: r, last, x, h, h1, h2, h3, h4, h5, h6 => by
    rw [liB] at h
    rw [List.cons_append, liB]
    simp only [Bool.and_eq_true] at h ⊢
    exact ⟨h.1, liB_snoc next lsn r y.tx x h.2 h1 h2 h3 h4 h5 h6⟩
theorem diB_snoc (lsn : Int) : ∀ (L : List DV) (page : Int) (x : DV), diB lsn page L = true → lpg page L < x.page → x.page < 64 → 1 ≤ x.since → x.since ≤ 2147483647 → belB x.since lsn = true → diB lsn page (L ++ [x]) = true
  | [], page, x, _, h1, h2, h3, h4, h5 => by
    have h1 : page < x.page := h1
    simp [diB, h1, h2, inB, h3, h4, h5]
  | y :: r, page, x, h, h1, h2, h3, h4, h5 => by
    rw [diB] at h
    rw [List.cons_append, diB]
    simp only [Bool.and_eq_true] at h ⊢
    exact ⟨h.1, diB_snoc lsn r y.page x h.2 h1 h2 h3 h4 h5⟩
structure Pp (w0 w : World) (ow : Nat → Nat) (b1 b2 b3 : Nat) (m : Mm) (next : Int) (q : Mm) (nx : Int) (L : List LV) (D : List DV) : Prop where
  old : Old w0 w ow
  x1 : Blk w b1 (ptV m next) T_api_Points
  t1 : ow b1 = 6
  x2 : Blk w b2 (ptV {} 0) T_api_Points
  t2 : ow b2 = 6
  x3 : Blk w b3 (ptV q nx) T_api_Points
  t3 : ow b3 = 7
  lv : SlT w ow T_api_Live 4 q.la q.ll q.lc (flatV LV.cs L) 4
  dv : SlT w ow T_api_Dirty 2 q.da q.dl q.dc (flatV DV.cs D) 5
  ll : q.ll = L.length
  dl : q.dl = D.length
theorem Pp.fr {T : Nat → Prop} {w0 w w' : World} {ow ow' : Nat → Nat} {b1 b2 b3 : Nat} {m q : Mm} {next nx : Int} {L : List LV} {D : List DV} (h : Pp w0 w ow b1 b2 b3 m next q nx L D) (f : Fro T w ow w' ow') (h0 : T 0) (h4 : T 4) (h5 : T 5) (h6 : T 6) (h7 : T 7) : Pp w0 w' ow' b1 b2 b3 m next q nx L D := by
  obtain ⟨a1, a2⟩ := blk_fr h.x1 h.t1 f h6
  obtain ⟨a3, a4⟩ := blk_fr h.x2 h.t2 f h6
  obtain ⟨a5, a6⟩ := blk_fr h.x3 h.t3 f h7
  exact ⟨h.old.fr f h0, a1, a2, a3, a4, a5, a6, h.lv.fr f h4, h.dv.fr f h5, h.ll, h.dl⟩
set_option maxHeartbeats 4000000 in
theorem points_c {w : World} {m : Mm} {L : List LV} {D : List DV} {next lsn : Int} {R : Po} (hi : LiIn w m L D) (h1 : 1 ≤ lsn) (h2 : lsn ≤ 100000)
    (h : ∀ (q : Mm) (nx : Int) (L' : List LV) (D' : List DV) (w' : World), Kp no w w' → OwnL w w' { live := L', dirty := D' } q → 1 ≤ nx → nx ≤ 1048576 → liB nx lsn 0 L' = true → diB lsn (-1) D' = true → L'.length ≤ 32 → D'.length ≤ 16 → (lsn = 1 → L' = [] ∧ D' = []) → R (.returned (.agg (ptV q nx))) w') :
    GoC Tryz.prog F_law06_points #[.agg (ptV m next), .int .i64 lsn] w R := by
  refine S_law06_points ?_
  unfold W_law06_points
  have hll := hi.ll
  have hdl := hi.dl
  have hlb := hi.lb
  have hdb := hi.db
  have wi : ∀ x : Nat, x ≤ 100000 → IntKind.wrap .i64 ((x : Int) + 1) = ((x + 1 : Nat) : Int) := fun x hx => by rw [wrap_i64 (by omega) (by omega)]; omega
  refine AlF.intro fun b1 w1 hb1e hb1 k1 _ => AlF.intro fun b2 w2 hb2e hb2 k2 _ => ?_
  have hb1 : Blk w2 b1 (ptV m next) T_api_Points := k2.blk hb1 id
  have hb2 : Blk w2 b2 (ptV {} 0) T_api_Points := hb2
  have k12 := k1.trans0 k2
  refine ⟨_, hb1.at (add1 _ _) rfl, brought_c (by omega) (by omega) ⟨_, rfl, ?_⟩⟩
  have hnx := emod_in next (m := 1048576) (by omega)
  rw [wrap_i64 (x := 1 + next % 1048576) (by omega) (by omega)]
  generalize hnxe : 1 + next % 1048576 = nx at *
  have o2 : Old w w2 (ext (fun _ => 0) w.heap.size 6) := (⟨Kp.refl _ _, fun _ _ => rfl⟩ : Old w w fun _ => 0).fr (Fro.of_kp0 (T := fun _ => True) 6 k12) trivial
  have t1 : ext (fun _ => 0) w.heap.size 6 b1 = 6 := ext_new (by omega)
  have t2 : ext (fun _ => 0) w.heap.size 6 b2 = 6 := ext_new (by have := k1.size; omega)
  generalize ext (fun _ => 0) w.heap.size 6 = ow2 at *
  refine AlF.intro fun b3 w3 hb3e hb3 k3 _ => ?_
  have f3 : Fro (fun _ => True) w2 ow2 w3 (ext ow2 w2.heap.size 7) := Fro.of_kp0 7 k3
  have t3 : ext ow2 w2.heap.size 7 b3 = 7 := ext_new (by omega)
  have o3 := o2.fr f3 trivial
  obtain ⟨hb13, t13⟩ := blk_fr hb1 t1 f3 trivial
  obtain ⟨hb23, t23⟩ := blk_fr hb2 t2 f3 trivial
  generalize ext ow2 w2.heap.size 7 = ow3 at *
  refine StF.at rfl hb3 (by simp) fun w4 hb4 k4 _ => StF.at (add1 _ _) hb4 (by simp) fun w5 hb5 k5 _ => StF.at (add1 _ _) hb5 (by simp) fun w6 hb6 k6 _ => ?_
  have k36 := (k4.trans0 k5).trans0 k6
  have f6 : Fro (fun u => u ≠ 7) w3 ow3 w6 ow3 := Fro.of_kp' k36 fun j _ hj hne => hne (by rw [hj]; exact t3)
  have o6 := o3.fr f6 (by omega)
  obtain ⟨hb16, t16⟩ := blk_fr hb13 t13 f6 (by omega)
  obtain ⟨hb26, t26⟩ := blk_fr hb23 t23 f6 (by omega)
  have P6 : Pp w w6 ow3 b1 b2 b3 m next {} nx [] [] := ⟨o6, hb16, t16, hb26, t26, hb6, t3, slt_nil _ _ _ _ _, slt_nil _ _ _ _ _, rfl, rfl⟩
  have belL : ∀ x : Int, lsn > 1 → belB (1 + x % (lsn - 1)) lsn = true := fun x hl => by
    have := emod_in x (m := lsn - 1) (by omega)
    unfold belB
    exact decide_eq_true (.inr (by omega))
  -- the live ones
  refine ⟨fun _ w' => ∃ ow q L', Pp w w' ow b1 b2 b3 m next q nx L' [] ∧ L'.length ≤ 32 ∧ liB nx lsn 0 L' = true ∧ (lsn = 1 → L' = []), ?_, ?_⟩
  · refine loopN (fun s w' => ∃ i : Nat, i ≤ 32 ∧ s.2.1 = (i : Int) ∧ ∃ ow q L', Pp w w' ow b1 b2 b3 m next q nx L' [] ∧ L'.length ≤ i ∧ liB nx lsn 0 L' = true ∧ (lsn = 1 → L' = []) ∧ ltx 0 L' ≤ s.1 ∧ 0 ≤ s.1 ∧ s.1 ≤ 5 * (i : Int)) (fun s _ => 32 - s.2.1.toNat)
      ⟨0, by omega, rfl, ow3, {}, [], P6, Nat.le_refl _, rfl, fun _ => rfl, Int.le_refl _, Int.le_refl _, by omega⟩ ?_
    rintro ⟨tx, i0, u⟩ w7 ⟨i, hi32, hi0, ow7, q, L', P7, hLi, hLB, hL1, hlt, htx0, htx1⟩ _
    dsimp only at hi0 hlt htx0 htx1 ⊢
    subst hi0
    have fin : ∃ ow q L', Pp w w7 ow b1 b2 b3 m next q nx L' [] ∧ L'.length ≤ 32 ∧ liB nx lsn 0 L' = true ∧ (lsn = 1 → L' = []) := ⟨ow7, q, L', P7, by omega, hLB, hL1⟩
    refine ⟨_, _, _, P7.x1.at rfl rfl, cond_d (fun hlt2 => cond_d (fun h32 => cond_d (fun hl1 => ?_) (fun _ => fin)) (fun _ => fin)) (fun _ => fin)⟩
    have hkl : i < L.length := by omega
    refine ⟨_, _, _, P7.x1.at rfl rfl, rd_el LV.csl (by omega) (hi.kp0 P7.old.kp).l hkl hll fun b o ha hc => ?_⟩
    have cell : ∀ j v, (L[i]).cs[j]? = some v → w7.cell? (Addr.add ((⟨b, o, none⟩ : Addr).add (Int.toNat (i : Int) * 4)) j) = some v := fun j v hv => by
      rw [Int.toNat_natCast, add_at, add_at]; exact hc j v hv
    have cell0 : w7.cell? ((⟨b, o, none⟩ : Addr).add (Int.toNat (i : Int) * 4)) = some (.int .i64 (L[i]).tx) := by
      rw [Int.toNat_natCast, add_at]; exact hc 0 _ rfl
    refine ⟨_, _, _, _, ⟨cell0, cell 1 _ rfl, cell 2 _ rfl, cell 3 _ rfl, trivial⟩, ?_⟩
    refine AlF.intro fun b4 w8 hb4e hb4 k8 _ => ?_
    have f8 : Fro (fun _ => True) w7 ow7 w8 (ext ow7 w7.heap.size 1) := Fro.of_kp0 1 k8
    have t4 : ext ow7 w7.heap.size 1 b4 = 1 := ext_new (by omega)
    have P8 := P7.fr f8 trivial trivial trivial trivial trivial
    generalize ext ow7 w7.heap.size 1 = ow8 at *
    refine StF.at rfl hb4 (by simp) fun w9 hb9 k9 _ => StF.at (add1 _ _) hb9 (by simp) fun w10 hb10 k10 _ => StF.at (add1 _ _) hb10 (by simp) fun w11 hb11 k11 _ => StF.at (add1 _ _) hb11 (by simp) fun w12 hb12 k12' _ => ?_
    have kk := ((k9.trans0 k10).trans0 k11).trans0 k12'
    have f12 : Fro (fun u => u ≠ 1) w8 ow8 w12 ow8 := Fro.of_kp' kk fun j _ hj hne => hne (by rw [hj]; exact t4)
    have P12 := P8.fr f12 (by omega) (by omega) (by omega) (by omega) (by omega)
    have hb12 : Blk w12 b4 #[.int .i64 (L[i]).tx, .int .i64 (L[i]).last, .bool (L[i]).c, .bool (L[i]).u] T_api_Live := hb12
    refine ⟨_, hb12.at rfl rfl, brought_c (by omega) (by omega) ⟨_, rfl, _, P12.x3.at (add1 _ _) rfl, ?_⟩⟩
    have h5 := emod_in (L[i]).tx (m := 5) (by omega)
    have e1 : IntKind.wrap .i64 (IntKind.wrap .i64 (tx + 1) + (L[i]).tx % 5) = tx + 1 + (L[i]).tx % 5 := by rw [wrap_i64 (x := tx + 1) (by omega) (by omega), wrap_i64 (by omega) (by omega)]
    rw [e1, wi i (by omega)]
    have dec : 32 - (((i + 1 : Nat) : Int)).toNat < 32 - ((i : Nat) : Int).toNat := by simp only [Int.toNat_natCast]; omega
    refine cond_d (fun hnx2 => ?_) (fun hnx2 => ⟨⟨i + 1, by omega, rfl, ow8, q, L', P12, by omega, hLB, hL1, by omega, by omega, by omega⟩, dec⟩)
    have kd : Kp no w12 w12.drew := Kp.drew w12 1
    have fd : Fro (fun _ => True) w12 ow8 w12.drew ow8 := Fro.kp0 kd
    have P13 := P12.fr fd trivial trivial trivial trivial trivial
    have hb13' := kd.blk hb12 id
    refine ⟨fun w' => Blk w' b3 (ptV q nx) T_api_Points ∧ Blk w' b4 #[.int .i64 (L[i]).tx, .int .i64 (L[i]).last, .bool (L[i]).c, .bool (L[i]).u] T_api_Live, ⟨P13.x3, hb13'⟩, _, _, _, fun w' hw => hw.1.at rfl rfl, _, fun w' hw => hw.2.at (add1 _ _) rfl, _, fun w' hw => hw.2.at (add1 _ _) rfl, _, fun w' hw => hw.2.at (add1 _ _) rfl, ?_⟩
    rw [wrap_i64 (x := lsn - 1) (by omega) (by omega)]
    refine brought_c (by omega) (by omega) ⟨_, rfl, ⟨P13.x3, hb13'⟩, ?_⟩
    have hls := emod_in (L[i]).last (m := lsn - 1) (by omega)
    rw [wrap_i64 (x := 1 + (L[i]).last % (lsn - 1)) (by omega) (by omega)]
    -- one more
    have more : ∀ (x : LV), x.tx = tx + 1 + (L[i]).tx % 5 → x.last = 1 + (L[i]).last % (lsn - 1) → (x.c && x.u) = false →
        AlF w12.drew (.cells #[.int .i64 x.tx, .int .i64 x.last, .bool x.c, .bool x.u] T_api_Live) fun b5 w16 => (Blk w16 b3 (ptV q nx) T_api_Points ∧ Blk w16 b4 #[.int .i64 (L[i]).tx, .int .i64 (L[i]).last, .bool (L[i]).c, .bool (L[i]).u] T_api_Live) ∧ RunF Tryz.prog (Builtin.append_ #[T_s_api_Live, T_s_api_Live] T_s_api_Live #[.slice q.la q.ll q.lc, .slice (some ⟨b5, 0, none⟩) 1 1]) w16 fun r4 w17 => ∃ (a6 : Option Addr) (l6 c6 : Nat), r4 = .slice a6 l6 c6 ∧ (Blk w17 b3 (ptV q nx) T_api_Points ∧ Blk w17 b4 #[.int .i64 (L[i]).tx, .int .i64 (L[i]).last, .bool (L[i]).c, .bool (L[i]).u] T_api_Live) ∧ StF w17 ⟨b3, 0, none⟩ (.slice a6 l6 c6) fun w18 => ((∃ i' : Nat, i' ≤ 32 ∧ ((i + 1 : Nat) : Int) = (i' : Int) ∧ ∃ ow q L', Pp w w18 ow b1 b2 b3 m next q nx L' [] ∧ L'.length ≤ i' ∧ liB nx lsn 0 L' = true ∧ (lsn = 1 → L' = []) ∧ ltx 0 L' ≤ tx + 1 + (L[i]).tx % 5 ∧ 0 ≤ tx + 1 + (L[i]).tx % 5 ∧ tx + 1 + (L[i]).tx % 5 ≤ 5 * (i' : Int)) ∧ 32 - (((i + 1 : Nat) : Int)).toNat < 32 - ((i : Nat) : Int).toNat) := fun x x1 x2 x3 => by
      refine AlF.intro fun b5 w16 hb5e hb5 k16 _ => ?_
      have f16 : Fro (fun _ => True) w12.drew ow8 w16 (ext ow8 w12.drew.heap.size 1) := Fro.of_kp0 1 k16
      have P16 := P13.fr f16 trivial trivial trivial trivial trivial
      obtain ⟨hb16', t16'⟩ := blk_fr hb13' t4 f16 trivial
      generalize ext ow8 w12.drew.heap.size 1 = ow16 at *
      have hql := P16.ll
      refine ⟨⟨P16.x3, hb16'⟩, app_c er_lv P16.lv (rd_cells hb5 (rfl : _ = LV.cs x)) (by rfl) (fun h => by cases h) (LV.cs1 x) (by omega) (by omega) fun a6 c6 w17 hs17 k17 f17 => ⟨_, _, _, rfl, ?_⟩⟩
      have P17o := P16.old.fr f17 (by omega)
      obtain ⟨y1, ty1⟩ := blk_fr P16.x1 P16.t1 f17 (by omega)
      obtain ⟨y2, ty2⟩ := blk_fr P16.x2 P16.t2 f17 (by omega)
      obtain ⟨y3, ty3⟩ := blk_fr P16.x3 P16.t3 f17 (by omega)
      obtain ⟨hb17', _⟩ := blk_fr hb16' t16' f17 (by omega)
      have dv17 := P16.dv.fr f17 (by omega)
      generalize ext ow16 w16.heap.size 4 = ow17 at *
      refine ⟨⟨y3, hb17'⟩, StF.at rfl y3 (Nat.le_of_ble_eq_true rfl) fun w18 hb18 k18 _ => ?_⟩
      have f18 : Fro (fun u => u ≠ 7) w17 ow17 w18 ow17 := Fro.of_kp' k18 fun j _ hj hne => hne (by rw [hj]; exact ty3)
      obtain ⟨z1, tz1⟩ := blk_fr y1 ty1 f18 (by omega)
      obtain ⟨z2, tz2⟩ := blk_fr y2 ty2 f18 (by omega)
      have hfl : flatV LV.cs (L' ++ [x]) = flatV LV.cs L' ++ LV.cs x := by rw [flatV_app]; simp [flatV]
      refine ⟨⟨i + 1, by omega, rfl, ow17, { q with la := a6, ll := q.ll + 1, lc := c6 }, L' ++ [x], ⟨P17o.fr f18 (by omega), z1, tz1, z2, tz2, hb18, ty3, by rw [hfl]; exact hs17.fr f18 (by omega), dv17.fr f18 (by omega), by simp [hql], P16.dl⟩, by simp; omega, liB_snoc nx lsn L' 0 x hLB (by omega) (by omega) (by omega) (by omega) (by rw [x2]; exact belL _ hl1) x3, fun hl => by omega, by rw [ltx_snoc]; omega, by omega, by omega⟩, dec⟩
    refine cond_b (fun hq4 => ⟨_, fun w' hw => hw.2.at (add1 _ _) rfl, ?_⟩) (fun hq4 => ?_)
    · exact more ⟨tx + 1 + (L[i]).tx % 5, 1 + (L[i]).last % (lsn - 1), (L[i]).c, !(L[i]).c⟩ rfl rfl (by cases (L[i]).c <;> rfl)
    · exact more ⟨tx + 1 + (L[i]).tx % 5, 1 + (L[i]).last % (lsn - 1), (L[i]).c, false⟩ rfl rfl (by cases (L[i]).c <;> rfl)
  rintro _ w7 ⟨ow7, q, L', P7, hL32, hLB, hL1⟩ _
  -- the dirty ones
  refine ⟨fun _ w' => ∃ ow q D', Pp w w' ow b1 b2 b3 m next q nx L' D' ∧ D'.length ≤ 16 ∧ diB lsn (-1) D' = true ∧ (lsn = 1 → D' = []), ?_, ?_⟩
  · refine loopN (fun s w' => ∃ i : Nat, i ≤ 16 ∧ s.2.1 = (i : Int) ∧ ∃ ow q D', Pp w w' ow b1 b2 b3 m next q nx L' D' ∧ D'.length ≤ i ∧ diB lsn (-1) D' = true ∧ (lsn = 1 → D' = []) ∧ lpg (-1) D' ≤ s.1 ∧ -1 ≤ s.1 ∧ s.1 ≤ 4 * (i : Int)) (fun s _ => 16 - s.2.1.toNat)
      ⟨0, by omega, rfl, ow7, q, [], P7, Nat.le_refl _, rfl, fun _ => rfl, Int.le_refl _, Int.le_refl _, by omega⟩ ?_
    rintro ⟨pg, i0, u⟩ w8 ⟨i, hi16, hi0, ow8, q, D', P8, hDi, hDB, hD1, hlt, hpg0, hpg1⟩ _
    dsimp only at hi0 hlt hpg0 hpg1 ⊢
    subst hi0
    have fin : ∃ ow q D', Pp w w8 ow b1 b2 b3 m next q nx L' D' ∧ D'.length ≤ 16 ∧ diB lsn (-1) D' = true ∧ (lsn = 1 → D' = []) := ⟨ow8, q, D', P8, by omega, hDB, hD1⟩
    refine ⟨_, _, _, P8.x1.at (add1 _ _) rfl, cond_d (fun hlt2 => cond_d (fun h16 => cond_d (fun hl1 => ?_) (fun _ => fin)) (fun _ => fin)) (fun _ => fin)⟩
    have hkl : i < D.length := by omega
    refine ⟨_, _, _, P8.x1.at (add1 _ _) rfl, rd_el DV.csl (by omega) (hi.kp0 P8.old.kp).d hkl hdl fun b o ha hc => ?_⟩
    have cell0 : w8.cell? ((⟨b, o, none⟩ : Addr).add (Int.toNat (i : Int) * 2)) = some (.int .i64 (D[i]).page) := by
      rw [Int.toNat_natCast, add_at]; exact hc 0 _ rfl
    refine ⟨_, cell0, brought_c (by omega) (by omega) ⟨_, rfl, ?_⟩⟩
    have h4 := emod_in (D[i]).page (m := 4) (by omega)
    have e1 : IntKind.wrap .i64 (IntKind.wrap .i64 (pg + 1) + (D[i]).page % 4) = pg + 1 + (D[i]).page % 4 := by rw [wrap_i64 (x := pg + 1) (by omega) (by omega), wrap_i64 (by omega) (by omega)]
    rw [e1, wi i (by omega)]
    have dec : 16 - (((i + 1 : Nat) : Int)).toNat < 16 - ((i : Nat) : Int).toNat := by simp only [Int.toNat_natCast]; omega
    refine cond_d (fun h64 => ?_) (fun h64 => ⟨⟨i + 1, by omega, rfl, ow8, q, D', P8, by omega, hDB, hD1, by omega, by omega, by omega⟩, dec⟩)
    have kd : Kp no w8 w8.drew := Kp.drew w8 1
    have fd : Fro (fun _ => True) w8 ow8 w8.drew ow8 := Fro.kp0 kd
    have P9 := P8.fr fd trivial trivial trivial trivial trivial
    have li9 := hi.kp0 P9.old.kp
    refine ⟨fun w' => Blk w' b3 (ptV q nx) T_api_Points ∧ Blk w' b1 (ptV m next) T_api_Points ∧ Rd w' m.da (flatV DV.cs D), ⟨P9.x3, P9.x1, li9.d⟩, _, _, _, fun w' hw => hw.1.at (add1 _ _) rfl, _, _, _, fun w' hw => hw.2.1.at (add1 _ _) rfl, ?_⟩
    refine rd_el DV.csl (by omega) li9.d hkl hdl fun b' o' ha' hc' => ?_
    rw [ha] at ha'
    cases ha'
    have cellS : ∀ w', Rd w' m.da (flatV DV.cs D) → w'.cell? (Addr.add ((⟨b, o, none⟩ : Addr).add (Int.toNat (i : Int) * 2)) 1) = some (.int .i64 (D[i]).since) := fun w' hw => by
      have hq := flatV_get DV.csl D i hkl 1 (by omega)
      obtain ⟨b'', o'', ha'', hcc⟩ := hw (i * 2 + 1) _ (by rw [hq]; rfl)
      rw [ha] at ha''
      cases ha''
      rw [Int.toNat_natCast, add_at, add_at, Nat.add_assoc]
      exact hcc
    refine ⟨_, fun w' hw => cellS w' hw.2.2, ?_⟩
    rw [wrap_i64 (x := lsn - 1) (by omega) (by omega)]
    refine brought_c (by omega) (by omega) ⟨_, rfl, ⟨P9.x3, P9.x1, li9.d⟩, ?_⟩
    have hls := emod_in (D[i]).since (m := lsn - 1) (by omega)
    rw [wrap_i64 (x := 1 + (D[i]).since % (lsn - 1)) (by omega) (by omega)]
    refine AlF.intro fun b5 w16 hb5e hb5 k16 _ => ?_
    have f16 : Fro (fun _ => True) w8.drew ow8 w16 (ext ow8 w8.drew.heap.size 1) := Fro.of_kp0 1 k16
    have P16 := P9.fr f16 trivial trivial trivial trivial trivial
    generalize ext ow8 w8.drew.heap.size 1 = ow16 at *
    have hql := P16.dl
    refine ⟨⟨P16.x3, P16.x1, (hi.kp0 P16.old.kp).d⟩, app_c er_dv P16.dv (rd_cells hb5 (rfl : _ = DV.cs ⟨pg + 1 + (D[i]).page % 4, 1 + (D[i]).since % (lsn - 1)⟩)) (by rfl) (fun h => by cases h) (DV.cs1 _) (by omega) (by omega) fun a6 c6 w17 hs17 k17 f17 => ⟨_, _, _, rfl, ?_⟩⟩
    have P17o := P16.old.fr f17 (by omega)
    obtain ⟨y1, ty1⟩ := blk_fr P16.x1 P16.t1 f17 (by omega)
    obtain ⟨y2, ty2⟩ := blk_fr P16.x2 P16.t2 f17 (by omega)
    obtain ⟨y3, ty3⟩ := blk_fr P16.x3 P16.t3 f17 (by omega)
    have lv17 := P16.lv.fr f17 (by omega)
    generalize ext ow16 w16.heap.size 5 = ow17 at *
    refine ⟨⟨y3, y1, (hi.kp0 P17o.kp).d⟩, StF.at (add1 _ _) y3 (Nat.le_of_ble_eq_true rfl) fun w18 hb18 k18 _ => ?_⟩
    have f18 : Fro (fun u => u ≠ 7) w17 ow17 w18 ow17 := Fro.of_kp' k18 fun j _ hj hne => hne (by rw [hj]; exact ty3)
    obtain ⟨z1, tz1⟩ := blk_fr y1 ty1 f18 (by omega)
    obtain ⟨z2, tz2⟩ := blk_fr y2 ty2 f18 (by omega)
    have hfl : flatV DV.cs (D' ++ [⟨pg + 1 + (D[i]).page % 4, 1 + (D[i]).since % (lsn - 1)⟩]) = flatV DV.cs D' ++ DV.cs ⟨pg + 1 + (D[i]).page % 4, 1 + (D[i]).since % (lsn - 1)⟩ := by rw [flatV_app]; simp [flatV]
    refine ⟨⟨i + 1, by omega, rfl, ow17, { q with da := a6, dl := q.dl + 1, dc := c6 }, D' ++ [⟨pg + 1 + (D[i]).page % 4, 1 + (D[i]).since % (lsn - 1)⟩], ⟨P17o.fr f18 (by omega), z1, tz1, z2, tz2, hb18, ty3, lv17.fr f18 (by omega), by rw [hfl]; exact hs17.fr f18 (by omega), P16.ll, by simp [hql]⟩, by simp; omega, diB_snoc lsn D' (-1) _ hDB (by dsimp only; omega) (by dsimp only; omega) (by dsimp only; omega) (by dsimp only; omega) (belL _ hl1), fun hl => by omega, by rw [lpg_snoc]; exact Int.le_refl _, by omega, by omega⟩, dec⟩
  rintro _ w8 ⟨ow8, q, D', P8, hD16, hDB, hD1⟩ _
  refine ⟨_, _, _, _, _, _, _, ⟨P8.x3.at rfl rfl, P8.x3.at (add1 _ _) rfl, P8.x3.at (add1 _ _) rfl, trivial⟩, ?_⟩
  refine StF.at rfl P8.x2 (Nat.le_of_ble_eq_true rfl) fun w9 hb9 k9 _ => StF.at (add1 _ _) hb9 (Nat.le_of_ble_eq_true rfl) fun w10 hb10 k10 _ => StF.at (add1 _ _) hb10 (Nat.le_of_ble_eq_true rfl) fun w11 hb11 k11 _ => ?_
  have hb11 : Blk w11 b2 (ptV q nx) T_api_Points := hb11
  have kk := (k9.trans0 k10).trans0 k11
  have f11 : Fro (fun u => u ≠ 6) w8 ow8 w11 ow8 := Fro.of_kp' kk fun j _ hj hne => hne (by rw [hj]; exact P8.t2)
  have o11 := P8.old.fr f11 (by omega)
  have lv := P8.lv.fr f11 (by omega)
  have dv := P8.dv.fr f11 (by omega)
  refine ⟨_, _, _, _, _, _, _, ⟨hb11.at rfl rfl, hb11.at (add1 _ _) rfl, hb11.at (add1 _ _) rfl, trivial⟩, ?_⟩
  have nw : ∀ (a : Option Addr) (t : Nat), t ≠ 0 → Tg ow8 t (Is a) → Fresh w a := fun a t h0 ht k hk => by
    apply Nat.le_of_not_lt
    intro hlt
    have := o11.z k hlt
    rw [ht k hk] at this
    exact h0 this
  refine h q nx L' D' w11 o11.kp ⟨by rw [← P8.ll]; exact lv.sl, by rw [← P8.dl]; exact dv.sl, P8.ll, P8.dl, nw _ 4 (by decide) lv.tg, nw _ 5 (by decide) dv.tg, fun k hk1 hk2 => ?_⟩ (by omega) (by omega) hLB hDB hL32 hD16 fun hl => ⟨hL1 hl, hD1 hl⟩
  have := lv.tg k hk1
  have := dv.tg k hk2
  omega
theorem and_t {a b : Bool} (h1 : a = true) (h2 : b = true) : (a && b) = true := by rw [h1, h2]; rfl
theorem i64_0 : i64 0 := by decide
structure Md (w0 w : World) (b1 b2 b3 : Nat) (r : RV) (m : Mm) (q : RV) : Prop where
  kp : Kp no w0 w
  x1 : Blk w b1 (r.ca m) T_api_Record
  x2 : Blk w b2 (({} : RV).ca {}) T_api_Record
  x3 : Blk w b3 (q.ca {}) T_api_Record
  n2 : w0.heap.size ≤ b2
  n3 : w0.heap.size ≤ b3
  e1 : b1 ≠ b3
  e2 : b2 ≠ b3
theorem Md.kp0 {w0 w w' : World} {b1 b2 b3 : Nat} {r q : RV} {m : Mm} (h : Md w0 w b1 b2 b3 r m q) (k : Kp no w w') : Md w0 w' b1 b2 b3 r m q :=
  ⟨h.kp.trans0 k, k.blk h.x1 id, k.blk h.x2 id, k.blk h.x3 id, h.n2, h.n3, h.e1, h.e2⟩
theorem Md.st {w0 w : World} {b1 b2 b3 o : Nat} {r q : RV} {m : Mm} {ad : Addr} {v : Value} {K : World → Prop} (h : Md w0 w b1 b2 b3 r m q) (q' : RV) (had : ad = ⟨b3, o, none⟩) (ho : o < 17) (he : (q.ca {}).setIfInBounds o v = q'.ca {})
    (hk : ∀ w', Md w0 w' b1 b2 b3 r m q' → Kp (fun j => j = b3) w w' → K w') : StF w ad v K :=
  StF.at had h.x3 ho fun w' hb' k' _ => hk w' ⟨kp_blk h.kp h.n3 k', k'.blk h.x1 h.e1, k'.blk h.x2 h.e2, he ▸ hb', h.n2, h.n3, h.e1, h.e2⟩ k'
def P20 (K T tx dl i g lo hi va : Int) : Prop :=
  (K = 2 → tx = 0 ∧ dl = 0 ∧ (1 ≤ i ∧ i ≤ 1048576) ∧ (1 ≤ g ∧ g ≤ 1048576) ∧ lo ≤ va ∧ va ≤ hi) ∧
  ((K = 3 ∨ K = 4) → tx = T ∧ (1 ≤ i ∧ i ≤ 1048576) ∧ g = 0 ∧ lo = 0 ∧ hi = 0 ∧ va = 0) ∧
  (K ≠ 2 → K ≠ 3 → K ≠ 4 → tx = T ∧ dl = 0 ∧ i = 0 ∧ g = 0 ∧ lo = 0 ∧ hi = 0 ∧ va = 0) ∧ i64 dl ∧ i64 lo ∧ i64 hi ∧ i64 va
def P25 (K wp wi sp si : Int) : Prop := ((K = 2 ∨ K = 3 ∨ K = 4) → slB wp wi sp si = true) ∧ (K ≠ 2 → K ≠ 3 → K ≠ 4 → wp = 0 ∧ wi = 0 ∧ sp = 0 ∧ si = 0)
def P27 (K lsn pv : Int) : Prop := ((K = 1 ∨ K = 2) → pv = 0) ∧ (K ≠ 1 → K ≠ 2 → 1 ≤ pv ∧ pv < lsn)
theorem made_chk {K T lsn tx dl i g lo hi va wp wi sp si pv : Int} (hK : 1 ≤ K ∧ K ≤ 7) (hT : 1 ≤ T ∧ T ≤ 1048576) (hl : 1 ≤ lsn ∧ lsn ≤ 100000) (p20 : P20 K T tx dl i g lo hi va) (p25 : P25 K wp wi sp si) (p27 : P27 K lsn pv) :
    chkN { lsn := lsn, kind := K, tx := tx, prev := pv, wp := wp, wi := wi, sp := sp, si := si, delta := dl, id := i, grp := g, lo := lo, hi := hi, val := va } = 0 := by
  obtain ⟨a1, a2, a3, _⟩ := p20
  obtain ⟨b1, b2⟩ := p25
  obtain ⟨c1, c2⟩ := p27
  unfold chkN
  rw [if_neg (by dsimp only; omega), if_pos]
  unfold okB
  dsimp only
  refine and_t (inB_iff.2 (by omega)) ?_
  by_cases h2 : K = 2
  · obtain ⟨x1, x2, x3, x4, x5, x6⟩ := a1 h2
    have x7 := c1 (.inr h2)
    rw [if_pos h2]
    exact and_t (and_t (and_t (and_t (b1 (.inl h2)) (inB_iff.2 x3)) (inB_iff.2 x4)) (decide_eq_true ⟨x5, x6⟩)) (decide_eq_true ⟨x1, x7, x2, rfl, rfl, rfl⟩)
  rw [if_neg h2, if_neg (show ¬ K = 8 by omega)]
  by_cases h34 : K = 3 ∨ K = 4
  · obtain ⟨x1, x2, x3, x4, x5, x6⟩ := a2 h34
    have x7 := c2 (by omega) (by omega)
    rw [if_pos h34]
    exact and_t (and_t (and_t (and_t (b1 (.inr h34)) (inB_iff.2 x2)) (and_t (inB_iff.2 (by omega)) (decide_eq_true (.inr x7.2)))) (inB_iff.2 (by omega))) (decide_eq_true ⟨x3, x4, x5, x6, rfl, rfl, rfl⟩)
  rw [if_neg h34]
  obtain ⟨x1, x2, x3, x4, x5, x6, x7⟩ := a3 h2 (by omega) (by omega)
  obtain ⟨y1, y2, y3, y4⟩ := b2 h2 (by omega) (by omega)
  by_cases h567 : K = 5 ∨ K = 6 ∨ K = 7
  · have z := c2 (by omega) (by omega)
    rw [if_pos h567]
    exact and_t (and_t (and_t (inB_iff.2 (by omega)) (decide_eq_true (.inr z.2))) (inB_iff.2 (by omega))) (decide_eq_true ⟨y1, y2, y3, y4, x2, x3, x4, x5, x6, x7, rfl, rfl, rfl⟩)
  · have z := c1 (.inl (by omega))
    rw [if_neg h567]
    exact and_t (inB_iff.2 (by omega)) (decide_eq_true ⟨z, y1, y2, y3, y4, x2, x3, x4, x5, x6, x7, rfl, rfl, rfl⟩)
theorem ckp_chk {lsn nx : Int} {L : List LV} {D : List DV} (hl : 1 ≤ lsn ∧ lsn ≤ 100000) (h1 : 1 ≤ nx) (h2 : nx ≤ 1048576) (h3 : liB nx lsn 0 L = true) (h4 : diB lsn (-1) D = true) (h5 : L.length ≤ 32) (h6 : D.length ≤ 16) :
    chkN { lsn := lsn, kind := 8, next := nx, live := L, dirty := D } = 0 := by
  unfold chkN
  rw [if_neg (by dsimp only; omega), if_pos]
  unfold okB
  dsimp only
  refine and_t (inB_iff.2 (by omega)) ?_
  rw [if_neg (by decide), if_pos rfl]
  unfold cpB
  exact and_t (and_t (and_t (and_t (and_t (inB_iff.2 (by omega)) (decide_eq_true h5)) (decide_eq_true h6)) h3) h4) (decide_eq_true ⟨rfl, rfl, rfl, rfl, rfl, rfl, rfl, rfl, rfl, rfl, rfl, rfl⟩)
theorem slB_dots (p i p' i' : Int) : slB (p % 64) (i % 31) (if p' % 64 = p % 64 then (p % 64 + 1) % 64 else p' % 64) (i' % 84) = true := by
  unfold slB
  have h1 := emod_in p (m := 64) (by omega)
  have h2 := emod_in i (m := 31) (by omega)
  have h3 := emod_in p' (m := 64) (by omega)
  have h4 := emod_in i' (m := 84) (by omega)
  have h5 := emod_in (p % 64 + 1) (m := 64) (by omega)
  simp only [Bool.and_eq_true, inB_iff, decide_eq_true_eq]
  split <;> omega
set_option maxHeartbeats 8000000 in
theorem made_c {w : World} {r : RV} {m : Mm} {lsn : Int} {R : Po} (hr : RArg w r m) (hl : 1 ≤ lsn ∧ lsn ≤ 100000)
    (h : ∀ (q : RV) (m' : Mm) (w' : World), Kp no w w' → OwnL w w' q m' → chkN { q with lsn := lsn } = 0 → q.w64 → q.lsn = 0 → (q.kind = 1 + r.kind % 8 ∨ q.kind = 1) → R (.returned (.agg (q.ca m'))) w') :
    GoC Tryz.prog F_law06_made #[.agg (r.ca m), .int .i64 lsn] w R := by
  refine S_law06_made ?_
  unfold W_law06_made
  have hw := hr.wf
  refine Loc.al (Kp.refl _ w) fun b1 w1 h1 k1 g1 => Loc.al h1.kp fun b2 w2 h2 k2 g2 => ?_
  have s1 := h1.blk.lt
  have h12 := h1.kp' k2
  have h12 : Loc w w2 b1 (r.ca m) T_api_Record := h12
  have h22 : Loc w w2 b2 (({} : RV).ca {}) T_api_Record := h2
  have s2 := h22.blk.lt
  refine ⟨_, h12.at rfl rfl, brought_c (by omega) (by omega) ⟨_, rfl, _, h12.at rfl rfl, brought_c (by omega) (by omega) ⟨_, rfl, ?_⟩⟩⟩
  have hk8 := emod_in r.kind (m := 8) (by omega)
  have htx := emod_in r.tx (m := 1048576) (by omega)
  rw [wrap_i64 (x := 1 + r.kind % 8) (by omega) (by omega), wrap_i64 (x := 1 + r.tx % 1048576) (by omega) (by omega)]
  generalize hKe : 1 + r.kind % 8 = K at *
  generalize hTe : 1 + r.tx % 1048576 = T at *
  have hK : 1 ≤ K ∧ K ≤ 8 := by omega
  have hT : 1 ≤ T ∧ T ≤ 1048576 := by omega
  refine Loc.al h22.kp fun b3 w3 h3 k3 g3 => ?_
  have h3 : Loc w w3 b3 (({} : RV).ca {}) T_api_Record := h3
  refine rec_st h3.blk { kind := K, tx := T } {} fun w4 hb4 k4 => ?_
  have M4 : Md w w4 b1 b2 b3 r m { kind := K, tx := T } := by
    have e1 : b1 ≠ b3 := by omega
    have e2 : b2 ≠ b3 := by omega
    exact ⟨kp_blk h3.kp h3.nw k4, k4.blk (k3.blk h12.blk id) e1, k4.blk (k3.blk h22.blk id) e2, hb4, h22.nw, h3.nw, e1, e2⟩
  -- what goes out, of what has no lists
  have out : ∀ (q : RV) (w' : World), q.live = [] → q.dirty = [] → Kp no w w' → Blk w' b2 (({} : RV).ca {}) T_api_Record → chkN { q with lsn := lsn } = 0 → q.w64 → q.lsn = 0 → (q.kind = K ∨ q.kind = 1) →
      ∀ w'', Blk w'' b2 (q.ca {}) T_api_Record → Kp (fun j => j = b2) w' w'' → R (.returned (.agg (q.ca {}))) w'' := fun q w' hq1 hq2 k' hx2 hc h64 hls hkk w'' hb'' k'' => by
    refine h q {} w'' (kp_blk k' h22.nw k'') ?_ hc h64 hls hkk
    refine ⟨?_, ?_, by rw [hq1]; rfl, by rw [hq2]; rfl, fun k hk => (is_none hk).elim, fun k hk => (is_none hk).elim, fun k hk => (is_none hk).elim⟩
    · rw [hq1]; exact Sl.nil _ _ _
    · rw [hq2]; exact Sl.nil _ _ _
  refine ⟨fun _ w' => Md w w' b1 b2 b3 r m { kind := K, tx := T } ∧ (lsn < 2 → K = 2 ∨ K = 8), cond_d (fun hl2 => cond_ne (fun hk2 => cond_ne (fun hk8' => ?_) (fun hk8' => ⟨M4, fun _ => .inr hk8'⟩)) (fun hk2 => ⟨M4, fun _ => .inl hk2⟩)) (fun hl2 => ⟨M4, fun hh => absurd hh hl2⟩), ?_⟩
  · refine rec_st M4.x2 { kind := 1, tx := T } {} fun w5 hb5 k5 => rec_rd hb5 (out { kind := 1, tx := T } w4 rfl rfl M4.kp M4.x2 ?_ ⟨i64_0, i64_0, i64_0, i64_0⟩ rfl (.inr rfl) w5 hb5 k5)
    exact made_chk (K := 1) (T := T) (by omega) hT hl ⟨by omega, by omega, fun _ _ _ => ⟨rfl, rfl, rfl, rfl, rfl, rfl, rfl⟩, i64_0, i64_0, i64_0, i64_0⟩ ⟨by omega, fun _ _ _ => ⟨rfl, rfl, rfl, rfl⟩⟩ ⟨fun _ => rfl, by omega⟩
  rintro _ w5 ⟨M5, hl5⟩ _
  clear M4
  refine ⟨fun _ w' => K ≠ 8 ∧ ∃ tx dl i g lo hi va, Md w w' b1 b2 b3 r m { kind := K, tx := tx, delta := dl, id := i, grp := g, lo := lo, hi := hi, val := va } ∧ P20 K T tx dl i g lo hi va, cond_eq (fun hk2 => ?_) (fun hk2 => ?_), ?_⟩
  · -- a counter is made
    refine ⟨_, _, _, _, _, ⟨M5.x1.at (add1 _ _) rfl, M5.x1.at (add2 _ _ _) rfl, M5.x1.at (add2 _ _ _) rfl, M5.x1.at (add2 _ _ _) rfl, M5.x1.at (add2 _ _ _) rfl, trivial⟩, ?_⟩
    refine AlF.intro fun b4 w6 hb4e hb46 k6 _ => ?_
    have M6 := M5.kp0 k6
    have n41 : b1 ≠ b4 := by have := M5.x1.lt; omega
    have n42 : b2 ≠ b4 := by have := M5.x2.lt; omega
    have n43 : b3 ≠ b4 := by have := M5.x3.lt; omega
    have n4 : w.heap.size ≤ b4 := by have := M5.kp.size; omega
    refine StF.at rfl hb46 (by simp) fun w7 hb7 k7 _ => StF.at (add1 _ _) hb7 (by simp) fun w8 hb8 k8 _ => StF.at (add1 _ _) hb8 (by simp) fun w9 hb9 k9 _ => StF.at (add1 _ _) hb9 (by simp) fun w10 hb10 k10 _ => StF.at (add1 _ _) hb10 (by simp) fun w11 hb11 k11 _ => ?_
    have kk := (((k7.trans0 k8).trans0 k9).trans0 k10).trans0 k11
    have mdk : ∀ {wa wb : World} {q : RV}, Md w wa b1 b2 b3 r m q → Kp (fun j => j = b4) wa wb → Md w wb b1 b2 b3 r m q := fun h k => ⟨kp_blk h.kp n4 k, k.blk h.x1 n41, k.blk h.x2 n42, k.blk h.x3 n43, h.n2, h.n3, h.e1, h.e2⟩
    have M11 := mdk M6 kk
    have hb11 : Blk w11 b4 #[.int .i64 r.id, .int .i64 r.grp, .int .i64 r.lo, .int .i64 r.hi, .int .i64 r.val] T_api_Counter := hb11
    refine ⟨fun _ w' => ∃ lo hi, Blk w' b4 #[.int .i64 r.id, .int .i64 r.grp, .int .i64 lo, .int .i64 hi, .int .i64 r.val] T_api_Counter ∧ lo ≤ hi ∧ i64 lo ∧ i64 hi ∧ Md w w' b1 b2 b3 r m { kind := K, tx := T }, ⟨_, hb11.at (add1 _ _) rfl, _, hb11.at (add2 _ _ _) rfl, cond_d (fun hgt => ?_) (fun hgt => ⟨_, _, hb11, by omega, hw.lo, hw.hi, M11⟩)⟩, ?_⟩
    · refine ⟨_, hb11.at (add2 _ _ _) rfl, _, hb11.at (add1 _ _) rfl, StF.at (add1 _ _) hb11 (by simp) fun w12 hb12 k12 _ => StF.at (add2 _ _ _) hb12 (by simp) fun w13 hb13 k13 _ => ?_⟩
      exact ⟨r.hi, r.lo, hb13, by omega, hw.hi, hw.lo, mdk M11 (k12.trans0 k13)⟩
    rintro _ w12 ⟨lo, hi, hb12, hlh, wlo, whi, M12⟩ _
    refine ⟨_, hb12.at (add1 _ _) rfl, _, hb12.at (add2 _ _ _) rfl, _, hb12.at (add1 _ _) rfl, ?_⟩
    refine M12.st { kind := K } (add1 _ _) (by omega) rfl fun w13 M13 k13 => ?_
    have hb13 := k13.blk hb12 (fun hh => n43 hh.symm)
    have kd : Kp no w13 w13.drew := Kp.drew w13 1
    have M14 := M13.kp0 kd
    have hb14 := kd.blk hb13 id
    refine ⟨fun w' => Blk w' b4 #[.int .i64 r.id, .int .i64 r.grp, .int .i64 lo, .int .i64 hi, .int .i64 r.val] T_api_Counter, hb14, _, fun w' hw' => hw'.at rfl rfl, _, fun w' hw' => hw'.at (add1 _ _) rfl, _, _, fun w' hw' => ⟨hw'.at (add1 _ _) rfl, hw'.at (add2 _ _ _) rfl, trivial⟩, ?_⟩
    refine brought_c (by omega) (by omega) ⟨_, rfl, hb14, brought_c (by omega) (by omega) ⟨_, rfl, hb14, ?_⟩⟩
    have hid := emod_in r.id (m := 1048576) (by omega)
    have hgr := emod_in r.grp (m := 1048576) (by omega)
    rw [wrap_i64 (x := 1 + r.id % 1048576) (by omega) (by omega), wrap_i64 (x := 1 + r.grp % 1048576) (by omega) (by omega)]
    generalize hva : (if (if r.val < hi then r.val else hi) > lo then (if r.val < hi then r.val else hi) else lo) = va
    have hva' : lo ≤ va ∧ va ≤ hi := by
      rw [← hva]
      split <;> split <;> omega
    refine M14.st { kind := K, id := 1 + r.id % 1048576 } (add1 _ _) (by omega) rfl fun w15 M15 _ => M15.st { kind := K, id := 1 + r.id % 1048576, grp := 1 + r.grp % 1048576 } (add2 _ _ _) (by omega) rfl fun w16 M16 _ => M16.st { kind := K, id := 1 + r.id % 1048576, grp := 1 + r.grp % 1048576, lo := lo } (add2 _ _ _) (by omega) rfl fun w17 M17 _ => M17.st { kind := K, id := 1 + r.id % 1048576, grp := 1 + r.grp % 1048576, lo := lo, hi := hi } (add2 _ _ _) (by omega) rfl fun w18 M18 _ => M18.st { kind := K, id := 1 + r.id % 1048576, grp := 1 + r.grp % 1048576, lo := lo, hi := hi, val := va } (add2 _ _ _) (by omega) rfl fun w19 M19 _ => ?_
    exact ⟨by omega, 0, 0, 1 + r.id % 1048576, 1 + r.grp % 1048576, lo, hi, va, M19, fun _ => ⟨rfl, rfl, by omega, by omega, hva'.1, hva'.2⟩, by omega, by omega, by decide, wlo, whi, by obtain ⟨a, b⟩ := wlo; obtain ⟨c, d⟩ := whi; exact ⟨by omega, by omega⟩⟩
  · refine ⟨fun s w' => s.1 = decide (K = 3 ∨ K = 4) ∧ Md w w' b1 b2 b3 r m { kind := K, tx := T }, cond_eq (fun hk3 => ⟨?_, M5⟩) (fun hk3 => ⟨?_, M5⟩), ?_⟩
    · show (K == 3) = _
      rw [decide_eq_true (.inl hk3), hk3]
      rfl
    · show (K == 4) = _
      by_cases hk4 : K = 4
      · rw [decide_eq_true (.inr hk4), hk4]
        rfl
      · rw [decide_eq_false (by omega)]
        simpa using hk4
    rintro ⟨s, u⟩ w6 ⟨hs, M6⟩ _
    dsimp only at hs ⊢
    subst hs
    refine cond_d (fun h34 => ?_) (fun h34 => cond_eq (fun hk8' => ?_) (fun hk8' => ?_))
    · refine ⟨_, M6.x1.at (add1 _ _) rfl, brought_c (by omega) (by omega) ⟨_, rfl, ?_⟩⟩
      have hid := emod_in r.id (m := 1048576) (by omega)
      rw [wrap_i64 (x := 1 + r.id % 1048576) (by omega) (by omega)]
      refine M6.st { kind := K, tx := T, id := 1 + r.id % 1048576 } (add1 _ _) (by omega) rfl fun w7 M7 _ => M7.st { kind := K, tx := T, id := 1 + r.id % 1048576 } (add2 _ _ _) (by omega) rfl fun w8 M8 _ => M8.st { kind := K, tx := T, id := 1 + r.id % 1048576 } (add2 _ _ _) (by omega) rfl fun w9 M9 _ => M9.st { kind := K, tx := T, id := 1 + r.id % 1048576 } (add2 _ _ _) (by omega) rfl fun w10 M10 _ => M10.st { kind := K, tx := T, id := 1 + r.id % 1048576 } (add2 _ _ _) (by omega) rfl fun w11 M11 _ => ?_
      refine ⟨_, M11.x1.at (add1 _ _) rfl, M11.st { kind := K, tx := T, id := 1 + r.id % 1048576, delta := r.delta } (add1 _ _) (by omega) rfl fun w12 M12 _ => ?_⟩
      exact ⟨by omega, T, r.delta, 1 + r.id % 1048576, 0, 0, 0, 0, M12, by omega, fun _ => ⟨rfl, by omega, rfl, rfl, rfl, rfl⟩, by omega, hw.delta, by decide, by decide, by decide⟩
    · -- a checkpoint
      subst hk8'
      refine ⟨_, _, _, _, _, _, _, ⟨M6.x1.at (add1 _ _) rfl, M6.x1.at (add2 _ _ _) rfl, M6.x1.at (add2 _ _ _) rfl, trivial⟩, ?_⟩
      refine points_c (m := m) (L := r.live) (D := r.dirty) (next := r.next) (hr.li.kp0 M6.kp) hl.1 hl.2 fun q nx L' D' w7 k7 o7 hn1 hn2 hL hD h32 h16 _ => ?_
      have M7 := M6.kp0 k7
      refine ⟨_, _, _, _, _, _, _, rfl, ?_⟩
      refine rec_st M7.x2 { kind := 8, live := L', dirty := D', next := nx } q fun w8 hb8 k8 => rec_rd hb8 ?_
      have z6 := M6.x2.lt
      have o6 := o7.from M6.kp.size
      refine h { kind := 8, live := L', dirty := D', next := nx } q w8 (kp_blk M7.kp M7.n2 k8) ⟨?_, ?_, o7.ll, o7.dl, o6.fl, o6.fd, o6.ap⟩ (ckp_chk hl hn1 hn2 hL hD h32 h16) ⟨i64_0, i64_0, i64_0, i64_0⟩ rfl (.inl rfl)
      · exact o7.l.kp k8 fun j hj hh => by have := o7.fl j hj; omega
      · exact o7.d.kp k8 fun j hj hh => by have := o7.fd j hj; omega
    · exact ⟨hk8', T, 0, 0, 0, 0, 0, 0, M6, by omega, by omega, fun _ _ _ => ⟨rfl, rfl, rfl, rfl, rfl, rfl, rfl⟩, by decide, by decide, by decide, by decide⟩
  rintro _ w6 ⟨hn8, tx, dl, i, g, lo, hi, va, M6, p20⟩ _
  clear M5
  -- the slots
  refine ⟨fun _ w' => ∃ wp wi sp si, Md w w' b1 b2 b3 r m { kind := K, tx := tx, wp := wp, wi := wi, sp := sp, si := si, delta := dl, id := i, grp := g, lo := lo, hi := hi, val := va } ∧ P25 K wp wi sp si, ?_, ?_⟩
  · refine cond_eq (fun hk => ?_) (fun hk => cond_eq (fun hk3 => ?_) (fun hk3 => cond_eq (fun hk4 => ?_) (fun hk4 => ⟨0, 0, 0, 0, M6, by omega, fun _ _ _ => ⟨rfl, rfl, rfl, rfl⟩⟩)))
    all_goals
      refine ⟨_, _, ⟨M6.x1.at (add1 _ _) rfl, M6.x1.at (add2 _ _ _) rfl, trivial⟩, dot_c (by omega) (by omega) fun w7 k7 => ⟨_, _, rfl, ?_⟩⟩
      refine (M6.kp0 k7).st { kind := K, tx := tx, wp := r.wp % 64, delta := dl, id := i, grp := g, lo := lo, hi := hi, val := va } (add1 _ _) (by omega) rfl fun w8 M8 _ => M8.st { kind := K, tx := tx, wp := r.wp % 64, wi := r.wi % 31, delta := dl, id := i, grp := g, lo := lo, hi := hi, val := va } (add2 _ _ _) (by omega) rfl fun w9 M9 _ => ?_
      refine ⟨fun _ w' => Md w w' b1 b2 b3 r m { kind := K, tx := tx, wp := r.wp % 64, wi := r.wi % 31, sp := r.sp % 64, si := r.si % 84, delta := dl, id := i, grp := g, lo := lo, hi := hi, val := va }, ⟨_, _, ⟨M9.x1.at (add1 _ _) rfl, M9.x1.at (add2 _ _ _) rfl, trivial⟩, dot_c (by omega) (by omega) fun w10 k10 => ⟨_, _, rfl, (M9.kp0 k10).st { kind := K, tx := tx, wp := r.wp % 64, wi := r.wi % 31, sp := r.sp % 64, delta := dl, id := i, grp := g, lo := lo, hi := hi, val := va } (add1 _ _) (by omega) rfl fun w11 M11 _ => M11.st { kind := K, tx := tx, wp := r.wp % 64, wi := r.wi % 31, sp := r.sp % 64, si := r.si % 84, delta := dl, id := i, grp := g, lo := lo, hi := hi, val := va } (add2 _ _ _) (by omega) rfl fun w12 M12 _ => M12⟩⟩, ?_⟩
      rintro _ w10 M10 _
      have sd := slB_dots r.wp r.wi r.sp r.si
      have hwp := emod_in r.wp (m := 64) (by omega)
      refine ⟨_, M10.x3.at (add1 _ _) rfl, _, M10.x3.at (add1 _ _) rfl, cond_eq (fun heq => ⟨_, M10.x3.at (add1 _ _) rfl, by decide, ?_⟩) (fun heq => ⟨r.wp % 64, r.wi % 31, r.sp % 64, r.si % 84, M10, fun _ => by rw [if_neg heq] at sd; exact sd, by omega⟩)⟩
      have et : Int.tmod (IntKind.wrap .i64 (r.wp % 64 + 1)) 64 = (r.wp % 64 + 1) % 64 := by
        rw [wrap_i64 (by omega) (by omega), Int.tmod_eq_emod_of_nonneg (by omega)]
      rw [et]
      rw [if_pos heq] at sd
      exact M10.st { kind := K, tx := tx, wp := r.wp % 64, wi := r.wi % 31, sp := (r.wp % 64 + 1) % 64, si := r.si % 84, delta := dl, id := i, grp := g, lo := lo, hi := hi, val := va } (add1 _ _) (by omega) rfl fun w11 M11 _ => ⟨r.wp % 64, r.wi % 31, (r.wp % 64 + 1) % 64, r.si % 84, M11, fun _ => sd, by omega⟩
  rintro _ w7 ⟨wp, wi, sp, si, M7, p25⟩ _
  clear M6
  refine ⟨fun _ w' => ∃ pv, Md w w' b1 b2 b3 r m { kind := K, tx := tx, prev := pv, wp := wp, wi := wi, sp := sp, si := si, delta := dl, id := i, grp := g, lo := lo, hi := hi, val := va } ∧ P27 K lsn pv, cond_ne (fun h1 => cond_ne (fun h2 => ?_) (fun h2 => ⟨0, M7, fun _ => rfl, by omega⟩)) (fun h1 => ⟨0, M7, fun _ => rfl, by omega⟩), ?_⟩
  · have hl2 : 2 ≤ lsn := by
      apply Int.le_of_not_gt
      intro hh
      rcases hl5 (by omega) with h5 | h5 <;> omega
    refine ⟨_, M7.x1.at (add1 _ _) rfl, ?_⟩
    rw [wrap_i64 (x := lsn - 1) (by omega) (by omega)]
    refine brought_c (by omega) (by omega) ⟨_, rfl, ?_⟩
    have hp := emod_in r.prev (m := lsn - 1) (by omega)
    rw [wrap_i64 (x := 1 + r.prev % (lsn - 1)) (by omega) (by omega)]
    exact M7.st { kind := K, tx := tx, prev := 1 + r.prev % (lsn - 1), wp := wp, wi := wi, sp := sp, si := si, delta := dl, id := i, grp := g, lo := lo, hi := hi, val := va } (add1 _ _) (by omega) rfl fun w8 M8 _ => ⟨_, M8, by omega, fun _ _ => ⟨by omega, by omega⟩⟩
  rintro _ w8 ⟨pv, M8, p27⟩ _
  have p20' := p20
  obtain ⟨_, _, _, d1, d2, d3, d4⟩ := p20'
  refine rec_rd M8.x3 (rec_st M8.x2 { kind := K, tx := tx, prev := pv, wp := wp, wi := wi, sp := sp, si := si, delta := dl, id := i, grp := g, lo := lo, hi := hi, val := va } {} fun w9 hb9 k9 => rec_rd hb9 (out { kind := K, tx := tx, prev := pv, wp := wp, wi := wi, sp := sp, si := si, delta := dl, id := i, grp := g, lo := lo, hi := hi, val := va } w8 rfl rfl M8.kp M8.x2 (made_chk (K := K) (by omega) hT hl p20 p25 p27) ⟨d1, d2, d3, d4⟩ rfl (.inl rfl) w9 hb9 k9))
set_option maxRecDepth 100000 in
theorem lay3 (n m : Nat) : ((over ((List.replicate 512 (0 : UInt8)).set 0 108) 1 (leB8 4 n)).set 5 (UInt8.ofNat (m % 256))).set 6 (UInt8.ofNat (m / 256 % 256)) = (108 :: (leB8 4 n ++ leB8 2 m)) ++ List.replicate 505 0 := rfl
theorem rsector_g {w : World} {a : Option Addr} {n l c : Nat} {bs : List UInt8} {R : Po} (hr : Rd w a (bvs bs)) (hl : bs.length = l) (hl2 : l ≤ 505) (h0 : a = none → l = 0) (hn : n < 4294967296)
    (h : ∀ b w', B8 w' b ((ovr (secH n bs ++ List.replicate 505 0) 7 bs).set 511 165) → Kp no w w' → w.heap.size ≤ b → R (.returned (.slice (some ⟨b, 0, none⟩) 512 512)) w') : GoC Tryz.prog F_ref06_Sector #[.int .i64 (n : Int), .slice a l c] w R := by
  subst hl
  refine S_ref06_Sector ?_
  unfold W_ref06_Sector
  refine make_u8 (n := 512) (by omega) fun b w1 cur hb1 hcur k1 hbe => ⟨_, _, _, rfl, ?_⟩
  have x1 : B8 w1 b (List.replicate 512 0) := ⟨cur, hb1, hcur⟩
  have hge : w.heap.size ≤ b := by omega
  refine ⟨by decide, by decide, _, rfl, ?_⟩
  refine x1.st (i := 0) (x := 108) (by rw [List.length_replicate]; omega) rfl fun w2 x2 k2 => ?_
  have k02 := kp_blk k1 hge k2
  have l2 : ((List.replicate 512 (0 : UInt8)).set 0 108).length = 512 := by rw [List.length_set, List.length_replicate]
  have l8 := leB8_len 4 n
  refine loopN (fun s w' => ∃ k : Nat, k ≤ 4 ∧ s.1 = (k : Int) ∧ B8 w' b (over ((List.replicate 512 (0 : UInt8)).set 0 108) 1 ((leB8 4 n).take k)) ∧ Kp no w w') (fun s _ => 4 - s.1.toNat) ⟨0, by omega, rfl, by rw [List.take_zero, over_ovr, ovr_nil]; exact x2, k02⟩ ?_
  rintro ⟨k0, u⟩ w3 ⟨k, hk, hk0, x3, k03⟩ _
  dsimp only at hk0 ⊢
  subst hk0
  refine cond_d (fun hlt => ?_) (fun hge4 => ?_)
  · have hk4 : k < 4 := by omega
    have e1 : IntKind.wrap .u64 (IntKind.wrap .i64 (8 * (k : Int))) = ((8 * k : Nat) : Int) := by
      rw [wrap_i64 (by omega) (by omega), wrap_u64 (by omega) (by omega)]
      omega
    have e2 : IntKind.wrap .i64 (1 + (k : Int)) = ((1 + k : Nat) : Int) := by rw [wrap_i64 (by omega) (by omega)]; omega
    have e3 : IntKind.wrap .i64 ((k : Int) + 1) = ((k + 1 : Nat) : Int) := by rw [wrap_i64 (by omega) (by omega)]; omega
    rw [e1, e2, e3]
    refine ⟨by omega, by omega, by omega, _, rfl, ?_⟩
    have hval : (Value.int .u8 (IntKind.wrap .u8 (shrV .i64 (n : Int) ((8 * k : Nat) : Int)))) = bv (UInt8.ofNat (n / 256 ^ k % 256)) := by
      rw [shrV_nat (by simp only [IntKind.bits]; omega), u8_mod, pow256]
      exact bv_of (by omega)
    rw [hval]
    have htl : ((leB8 4 n).take k).length = k := by rw [List.length_take]; omega
    have hol : (over ((List.replicate 512 (0 : UInt8)).set 0 108) 1 ((leB8 4 n).take k)).length = 512 := by rw [over_len (by omega), l2]
    refine x3.st (i := 1 + k) (by rw [hol]; omega) (by rw [Int.toNat_natCast, add_at, Nat.zero_add]) fun w4 x4 k4 => ⟨⟨k + 1, by omega, rfl, ?_, kp_blk k03 hge k4⟩, by simp only [Int.toNat_natCast]; omega⟩
    have hk8 : (leB8 4 n)[k]? = some (UInt8.ofNat (n / 256 ^ k % 256)) := leB8_get 4 n k hk4
    have htk : (leB8 4 n).take (k + 1) = (leB8 4 n).take k ++ [UInt8.ofNat (n / 256 ^ k % 256)] := by
      rw [List.take_add_one, hk8]; rfl
    have hs := over_set (l := (List.replicate 512 (0 : UInt8)).set 0 108) (x := (leB8 4 n).take k) (i := 1) (c := UInt8.ofNat (n / 256 ^ k % 256)) (by omega)
    rw [htl] at hs
    rw [htk, ← hs]
    exact x4
  · have hke : k = 4 := by omega
    subst hke
    have x3 : B8 w3 b (over ((List.replicate 512 (0 : UInt8)).set 0 108) 1 (leB8 4 n)) := x3
    have l3 : (over ((List.replicate 512 (0 : UInt8)).set 0 108) 1 (leB8 4 n)).length = 512 := by rw [over_len (by omega), l2]
    refine ⟨by decide, by decide, _, rfl, ?_⟩
    have v5 : (Value.int .u8 (IntKind.wrap .u8 ((bs.length : Nat) : Int))) = bv (UInt8.ofNat (bs.length % 256)) := by
      rw [u8_mod]
      exact bv_of (by omega)
    rw [v5]
    refine x3.st (i := 5) (by omega) (by rw [add_at]; rfl) fun w5 x5 k5 => ⟨by decide, by decide, by decide, _, rfl, ?_⟩
    have v6 : (Value.int .u8 (IntKind.wrap .u8 (shrV .i64 ((bs.length : Nat) : Int) 8))) = bv (UInt8.ofNat (bs.length / 256 % 256)) := by
      have e8 : (8 : Int) = ((8 : Nat) : Int) := rfl
      rw [e8, shrV_nat (by simp only [IntKind.bits]; omega), u8_mod]
      exact bv_of (by omega)
    rw [v6]
    refine x5.st (i := 6) (by rw [List.length_set]; omega) (by rw [add_at]; rfl) fun w6 x6 k6 => ?_
    rw [lay3] at x6
    have x6 : B8 w6 b (secH n bs ++ List.replicate 505 0) := x6
    have k06 := kp_blk (kp_blk k03 hge k5) hge k6
    have l4 : (secH n bs ++ List.replicate 505 (0 : UInt8)).length = 512 := by rw [List.length_append, secH_len, List.length_replicate]
    have s4 := x6.sl
    rw [l4] at s4
    refine ⟨trivial, by show (0 : Int) ≤ 7 ∧ (7 : Int) ≤ ((512 : Nat) : Int); omega, ?_⟩
    refine copy_own (ow := fun _ => 0) (t := 0) (o := 7) (dl := 505) ⟨s4, fun _ _ => rfl⟩ (hr.kp0 k06) (fun hh => List.eq_nil_of_length_eq_zero (h0 hh)) (by omega) (by omega) fun w7 s7 k7 f7 => ⟨_, rfl, ?_⟩
    have l5 : (ovr (secH n bs ++ List.replicate 505 (0 : UInt8)) 7 bs).length = 512 := by rw [ovr_len (by omega), l4]
    have x7 : B8 w7 b (ovr (secH n bs ++ List.replicate 505 0) 7 bs) := B8.of (by rw [l5]; exact s7.sl)
    have k07 : Kp no w w7 := k06.trans k7 (fun _ _ h => h) fun j hj hh => by obtain ⟨_, he, rfl⟩ := hh; cases he; exact absurd hj (by show ¬ b < w.heap.size; omega)
    refine ⟨by decide, by decide, _, rfl, ?_⟩
    refine x7.st (i := 511) (x := 165) (by omega) (by rw [add_at]; rfl) fun w8 x8 k8 => ?_
    exact h b w8 x8 (kp_blk k07 hge k8) hge
theorem rsector_c {w : World} {a : Option Addr} {n l c : Nat} {bs : List UInt8} {R : Po} (hr : Rd w a (bvs bs)) (hl : bs.length = l) (hl2 : l ≤ 502) (h0 : a = none → l = 0) (hn : n < 4294967296)
    (h : ∀ b w', B8 w' b (secB n bs) → Kp no w w' → w.heap.size ≤ b → R (.returned (.slice (some ⟨b, 0, none⟩) 512 512)) w') : GoC Tryz.prog F_ref06_Sector #[.int .i64 (n : Int), .slice a l c] w R :=
  rsector_g hr hl (by omega) h0 hn fun b w' hb k hge => h b w' (by rw [lay2 n bs (by omega)] at hb; exact hb) k hge
theorem rd_part {w : World} {a : Option Addr} {c lo n : Nat} {bs : List UInt8} (h : Rd w a (bvs bs)) (hc : bs.length ≤ c) : Rd w (subA a c lo 1) (bvs ((bs.drop lo).take n)) := by
  have := (rd_drop (k := lo) h hc).take n
  rw [bvs_take] at this
  exact this
theorem rd_none {w : World} {a : Option Addr} {c lo n : Nat} {bs : List UInt8} (h : Rd w a (bvs bs)) (hb : 0 < bs.length) : subA a c lo 1 = none → n = 0 := fun hz => by
  exfalso
  obtain ⟨b, o, ha, _⟩ := h 0 _ (bvs_get hb)
  rw [ha] at hz
  unfold subA at hz
  split at hz <;> cases hz
def mkl : LV := ⟨-7, 0, false, false⟩
def mkd : DV := ⟨-7, 0⟩
structure OwnM (w w' : World) (r : RV) (m : Mm) : Prop where
  l : Sl w' T_api_Live 4 m.la (m.ll + 1) m.lc (flatV LV.cs (r.live ++ [mkl]))
  d : Sl w' T_api_Dirty 2 m.da (m.dl + 1) m.dc (flatV DV.cs (r.dirty ++ [mkd]))
  ll : r.live.length = m.ll
  dl : r.dirty.length = m.dl
  fl : Fresh w m.la
  fd : Fresh w m.da
  ap : ∀ k, Is m.la k → ¬ Is m.da k
theorem rd_init {α : Type} {f : α → List Value} {w : World} {a : Option Addr} {L M : List α} (h : Rd w a (flatV f (L ++ M))) : Rd w a (flatV f L) := by
  rw [flatV_app] at h
  have := h.take (flatV f L).length
  rwa [List.take_left] at this
section
variable {P : Program}
theorem marked {t e ty : TypeId} {z : Value} {s by_ : Nat} (hr : ElemRow P t e z s by_) {w : World} {a : Option Addr} {l c : Nat} {xs mk : List Value} (hx : Rd w a xs) (hl : xs.length = l * s) (h0 : a = none → l = 0) (h1 : ∀ u ∈ xs, u.oneCell' = true) (hm : mk.length = s) (hm1 : ∀ u ∈ mk, u.oneCell' = true)
    (h63 : l + 1 ≤ 9223372036854775807) (hb : (l + 1) * by_ ≤ 140737488355328) {K : Option Addr → Nat → Nat → World → Prop}
    (h : ∀ a' c' w', Sl w' e s a' (l + 1) c' (xs ++ mk) → Kp no w w' → Fresh w a' → K a' (l + 1) c' w') :
    RunF P (Builtin.append_ #[t, t] ty #[.slice none 0 0, .slice a l c]) w fun r1 w3 => ∃ (a4 : Option Addr) (l4 c4 : Nat), r1 = .slice a4 l4 c4 ∧ AlF w3 (.cells mk.toArray e) fun b w4 => RunF P (Builtin.append_ #[t, t] ty #[.slice a4 l4 c4, .slice (some ⟨b, 0, none⟩) 1 1]) w4 fun r2 w5 => ∃ (a5 : Option Addr) (l5 c5 : Nat), r2 = .slice a5 l5 c5 ∧ K a5 l5 c5 w5 := by
  have hle : l * by_ ≤ (l + 1) * by_ := Nat.mul_le_mul_right _ (by omega)
  refine append_new hr hx hl h0 h1 (by omega) (by omega) fun a4 c4 w3 hs3 k3 hf3 _ => ⟨_, _, _, rfl, AlF.intro fun b w4 hbe hblk k4 _ => ?_⟩
  have hn : Rd w4 (some ⟨b, 0, none⟩) mk := rd_cells hblk rfl
  refine append_own hr (hs3.kp0 k4) hn (by rw [hm, Nat.one_mul]) (fun h => by cases h) hm1 h63 hb fun a5 c5 w5 hs5 k5 hi5 _ _ => ⟨_, _, _, rfl, ?_⟩
  refine h a5 c5 w5 hs5 ?_ fun k hk => ?_
  · exact (k3.trans0 k4).trans k5 (fun _ _ h => h) fun j hj hh => by have := hf3 j hh; omega
  · rcases hi5 k hk with hh | hh
    · exact hf3 k hh
    · have := k3.size
      have := k4.size
      omega
end
set_option maxHeartbeats 2000000 in
theorem mlent_c {w : World} {r : RV} {m : Mm} {R : Po} (hi : LiIn w m r.live r.dirty) (hl : (m.ll + 1) * 24 ≤ 140737488355328) (hd : (m.dl + 1) * 16 ≤ 140737488355328)
    (h : ∀ m' w', Kp no w w' → OwnM w w' r m' → m'.ll = m.ll → m'.dl = m.dl → R (.returned (.agg (r.ca m'))) w') : GoC Tryz.prog F_law06_lent #[.agg (r.ca m)] w R := by
  refine S_law06_lent ?_
  unfold W_law06_lent
  have hll := hi.ll
  have hdl := hi.dl
  obtain ⟨nl, nd⟩ := hi.nl
  refine Loc.al (Kp.refl _ w) fun b1 w1 h1 k1 g1 => Loc.al h1.kp fun b2 w2 h2 k2 g2 => ?_
  have s0 := h1.blk.lt
  have h1 : Loc w w2 b1 (r.ca m) T_api_Record := h1.kp' k2
  have h2 : Loc w w2 b2 (({} : RV).ca {}) T_api_Record := h2
  have s2 := h2.blk.lt
  have hne : b1 ≠ b2 := by omega
  refine ⟨_, _, _, h1.at rfl rfl, ?_⟩
  refine marked er_lv (mk := mkl.cs) (hi.kp0 h1.kp).l (by rw [flatV_len LV.csl, hll]) nl (flatV_one LV.cs1 _) (LV.csl _) (LV.cs1 _) (by omega) hl fun a5 c5 w5 hs5 k5 hf5 => ?_
  have lt5 := hs5.lt
  have h15 := h1.kp' k5
  have h25 := h2.kp' k5
  refine ⟨_, _, _, h15.at rfl rfl, ?_⟩
  refine marked er_dv (mk := mkd.cs) (hi.kp0 h15.kp).d (by rw [flatV_len DV.csl, hdl]) nd (flatV_one DV.cs1 _) (DV.csl _) (DV.cs1 _) (by omega) hd fun a8 c8 w8 hs8 k8 hf8 => ?_
  have h18 := h15.kp' k8
  have h28 := h25.kp' k8
  have hs5 := hs5.kp0 k8
  have e1 : IntKind.wrap .i64 (((m.ll + 1 : Nat) : Int) - 1) = (m.ll : Int) := by rw [wrap_i64 (by omega) (by omega)]; omega
  have e2 : IntKind.wrap .i64 (((m.dl + 1 : Nat) : Int) - 1) = (m.dl : Int) := by rw [wrap_i64 (by omega) (by omega)]; omega
  rw [e1, e2, subA_zero, subA_zero, Int.toNat_natCast, Int.toNat_natCast]
  have hc5 := hs5.2.1
  have hc8 := hs8.2.1
  refine ⟨⟨by omega, by omega⟩, trivial, ?_⟩
  refine h18.st rfl (Nat.le_of_ble_eq_true rfl) fun w9 h19 k9 => ⟨⟨by omega, by omega⟩, trivial, ?_⟩
  refine h19.st rfl (Nat.le_of_ble_eq_true rfl) fun w10 h110 k10 => ?_
  have h110 : Loc w w10 b1 (r.ca ⟨a5, m.ll, c5, a8, m.dl, c8⟩) T_api_Record := h110
  have k810 := k9.trans0 k10
  have h210 : Loc w w10 b2 (({} : RV).ca {}) T_api_Record := ⟨k810.blk h28.blk (fun hh => hne hh.symm), h28.nw, h110.kp⟩
  refine rec_rd h110.blk (rec_st h210.blk r ⟨a5, m.ll, c5, a8, m.dl, c8⟩ fun w11 hb11 k11 => rec_rd hb11 ?_)
  have s1 := h1.blk.lt
  have z5 := h15.kp.size
  have z2 := k5.size
  have z8 := k8.size
  have l11 : Sl w11 T_api_Live 4 a5 (m.ll + 1) c5 (flatV LV.cs r.live ++ mkl.cs) := (hs5.kp k810 fun j hj hh => by have := hf5 j hj; omega).kp k11 fun j hj hh => by have := hf5 j hj; omega
  have d11 : Sl w11 T_api_Dirty 2 a8 (m.dl + 1) c8 (flatV DV.cs r.dirty ++ mkd.cs) := (hs8.kp k810 fun j hj hh => by have := hf8 j hj; omega).kp k11 fun j hj hh => by have := hf8 j hj; omega
  have e3 : flatV LV.cs r.live ++ mkl.cs = flatV LV.cs (r.live ++ [mkl]) := by rw [flatV_app]; simp [flatV]
  have e4 : flatV DV.cs r.dirty ++ mkd.cs = flatV DV.cs (r.dirty ++ [mkd]) := by rw [flatV_app]; simp [flatV]
  rw [e3] at l11
  rw [e4] at d11
  have z12 := h2.kp.size
  refine h ⟨a5, m.ll, c5, a8, m.dl, c8⟩ w11 (kp_blk h210.kp h210.nw k11) ⟨l11, d11, hll, hdl, fun j hj => by have := hf5 j hj; omega, fun j hj => by have := hf8 j hj; omega, fun j h1 h2 => ?_⟩ rfl rfl
  have := hf8 j h2
  have := lt5 j h1
  omega
theorem wrL {w : World} {b l c k : Nat} {xs : List Value} (h : Sl w T_api_Live 4 (some ⟨b, 0, none⟩) l c xs) (hk : k < l) {v0 v1 v2 v3 : Value} {K : World → Prop}
    (hK : ∀ w' xs', Sl w' T_api_Live 4 (some ⟨b, 0, none⟩) l c xs' → Kp (Is (some ⟨b, 0, none⟩)) w w' → K w') :
    StF w ((⟨b, 0, none⟩ : Addr).add (k * 4)) v0 fun w1 => StF w1 (Addr.add ((⟨b, 0, none⟩ : Addr).add (k * 4)) 1) v1 fun w2 => StF w2 (Addr.add ((⟨b, 0, none⟩ : Addr).add (k * 4)) 2) v2 fun w3 => StF w3 (Addr.add ((⟨b, 0, none⟩ : Addr).add (k * 4)) 3) v3 K :=
  h.putv (i := k * 4) (by omega) (by rw [add_at, Nat.zero_add]) fun w1 h1 k1 _ => h1.putv (i := k * 4 + 1) (by omega) (by rw [add_at, add_at, Nat.zero_add]) fun w2 h2 k2 _ => h2.putv (i := k * 4 + 2) (by omega) (by rw [add_at, add_at, Nat.zero_add]) fun w3 h3 k3 _ => h3.putv (i := k * 4 + 3) (by omega) (by rw [add_at, add_at, Nat.zero_add]) fun w4 h4 k4 _ =>
    hK w4 _ h4 (((k1.trans0 k2).trans0 k3).trans0 k4)
theorem wrD {w : World} {b l c k : Nat} {xs : List Value} (h : Sl w T_api_Dirty 2 (some ⟨b, 0, none⟩) l c xs) (hk : k < l) {v0 v1 : Value} {K : World → Prop}
    (hK : ∀ w' xs', Sl w' T_api_Dirty 2 (some ⟨b, 0, none⟩) l c xs' → Kp (Is (some ⟨b, 0, none⟩)) w w' → K w') :
    StF w ((⟨b, 0, none⟩ : Addr).add (k * 2)) v0 fun w1 => StF w1 (Addr.add ((⟨b, 0, none⟩ : Addr).add (k * 2)) 1) v1 K :=
  h.putv (i := k * 2) (by omega) (by rw [add_at, Nat.zero_add]) fun w1 h1 k1 _ => h1.putv (i := k * 2 + 1) (by omega) (by rw [add_at, add_at, Nat.zero_add]) fun w2 h2 k2 _ => hK w2 _ h2 (k1.trans0 k2)
set_option maxHeartbeats 4000000 in
theorem mkept_c {w : World} {r : RV} {mo m : Mm} {R : Po} (hl : Sl w T_api_Live 4 mo.la (mo.ll + 1) mo.lc (flatV LV.cs (r.live ++ [mkl]))) (hd : Sl w T_api_Dirty 2 mo.da (mo.dl + 1) mo.dc (flatV DV.cs (r.dirty ++ [mkd]))) (hll : r.live.length = mo.ll) (hdl : r.dirty.length = mo.dl) (hap : ∀ k, Is mo.la k → ¬ Is mo.da k)
    (hi : LiIn w m r.live r.dirty) (h : ∀ w', Kp (fun j => Is mo.la j ∨ Is mo.da j) w w' → R (.returned (.bool true)) w') : GoC Tryz.prog F_law06_kept #[.agg (r.ca mo), .agg (r.ca m)] w R := by
  refine S_law06_kept ?_
  unfold W_law06_kept
  have hml := hi.ll
  have hmd := hi.dl
  have hlb := hi.lb
  have hdb := hi.db
  refine Loc.al (Kp.refl _ w) fun b1 w1 h1 k1 g1 => Loc.al h1.kp fun b2 w2 h2 k2 g2 => ?_
  have h1 : Loc w w2 b1 (r.ca mo) T_api_Record := h1.kp' k2
  have h2 : Loc w w2 b2 (r.ca m) T_api_Record := h2
  have hl2 := hl.kp0 h2.kp
  have hd2 := hd.kp0 h2.kp
  have e1 : IntKind.wrap .i64 (((m.ll : Nat) : Int) + 1) = ((mo.ll + 1 : Nat) : Int) := by rw [wrap_i64 (by omega) (by omega)]; omega
  have e2 : IntKind.wrap .i64 (((m.dl : Nat) : Int) + 1) = ((mo.dl + 1 : Nat) : Int) := by rw [wrap_i64 (by omega) (by omega)]; omega
  have hlc := hl.2.1
  have hdc := hd.2.1
  refine ⟨_, _, _, h2.at rfl rfl, _, _, _, h2.at rfl rfl, _, _, _, h1.at rfl rfl, ?_⟩
  rw [e1, e2, subA_zero, Int.toNat_natCast]
  refine ⟨⟨by omega, by omega⟩, trivial, _, _, _, h1.at rfl rfl, ?_⟩
  rw [subA_zero, Int.toNat_natCast]
  refine ⟨⟨by omega, by omega⟩, trivial, ?_⟩
  have li1 : LiIn w2 mo r.live r.dirty := ⟨rd_init hl2.rd, hll, by omega, rd_init hd2.rd, hdl, by omega⟩
  refine rec_rd h1.blk (rec_rd h2.blk (rsame_c (r := r) (q := r) (m := mo) (n := m) li1 (hi.kp0 h2.kp) fun w3 k3 => ⟨_, rfl, ?_⟩))
  rw [decide_eq_true rfl]
  have hl3 := hl2.kp0 k3
  have hd3 := hd2.kp0 k3
  have k03 := h2.kp.trans0 k3
  obtain ⟨bl, cl, hal, _⟩ := hl3.addr (by omega)
  obtain ⟨bd, cd, had, _⟩ := hd3.addr (by omega)
  have g1 : ∀ h, (r.live ++ [mkl])[m.ll]'h = mkl := fun h => by
    rw [List.getElem_append_right (by omega)]
    simp
  have g2 : ∀ h, (r.dirty ++ [mkd])[m.dl]'h = mkd := fun h => by
    rw [List.getElem_append_right (by omega)]
    simp
  have q1 : (r.live ++ [mkl]).length = mo.ll + 1 := by simp [hll]
  have q2 : (r.dirty ++ [mkd]).length = mo.dl + 1 := by simp [hdl]
  refine cond_t rfl ?_
  refine rd_el LV.csl (by omega) hl3.rd (k := m.ll) (by omega) q1 fun b o ha hc => ⟨-7, 0, false, false, ⟨?_, ?_, ?_, ?_, trivial⟩, cond_t rfl ?_⟩
  · first | rw [Int.toNat_natCast, add_at] | rw [add_at]
    exact hc 0 _ (by rw [g1]; rfl)
  · first | rw [Int.toNat_natCast, add_at, add_at] | rw [add_at, add_at]
    exact hc 1 _ (by rw [g1]; rfl)
  · first | rw [Int.toNat_natCast, add_at, add_at] | rw [add_at, add_at]
    exact hc 2 _ (by rw [g1]; rfl)
  · first | rw [Int.toNat_natCast, add_at, add_at] | rw [add_at, add_at]
    exact hc 3 _ (by rw [g1]; rfl)
  refine rd_el DV.csl (by omega) hd3.rd (k := m.dl) (by omega) q2 fun b' o' ha' hc' => ⟨-7, 0, ⟨?_, ?_, trivial⟩, ?_⟩
  · first | rw [Int.toNat_natCast, add_at] | rw [add_at]
    exact hc' 0 _ (by rw [g2]; rfl)
  · first | rw [Int.toNat_natCast, add_at, add_at] | rw [add_at, add_at]
    exact hc' 1 _ (by rw [g2]; rfl)
  clear hc hc'
  -- the live ones are written over
  refine loopN (fun s w' => ∃ i : Nat, i ≤ mo.ll + 1 ∧ s.1 = (i : Int) ∧ ∃ xs, Sl w' T_api_Live 4 mo.la (mo.ll + 1) mo.lc xs ∧ Kp (Is mo.la) w3 w') (fun s _ => mo.ll + 1 - s.1.toNat) ⟨0, by omega, rfl, _, hl3, Kp.refl _ _⟩ ?_
  rintro ⟨i0, u⟩ w4 ⟨i, hi1, hi0, xs, sl4, k34⟩ _
  dsimp only at hi0 ⊢
  subst hi0
  refine cond_d (fun hle => ?_) (fun hgt => ?_)
  · have wi : IntKind.wrap .i64 ((i : Int) + 1) = ((i + 1 : Nat) : Int) := by rw [wrap_i64 (by omega) (by omega)]; omega
    refine ⟨by omega, by omega, _, hal, ?_⟩
    rw [Int.toNat_natCast]
    rw [hal] at sl4
    refine wrL sl4 (by omega) fun w5 xs' h5 k5 => ?_
    rw [wi]
    refine ⟨⟨i + 1, by omega, rfl, xs', by rw [hal]; exact h5, k34.trans0 (by rw [hal]; exact k5)⟩, ?_⟩
    show mo.ll + 1 - (((i + 1 : Nat) : Int)).toNat < mo.ll + 1 - ((i : Nat) : Int).toNat
    simp only [Int.toNat_natCast]
    omega
  have sd4 : Sl w4 T_api_Dirty 2 mo.da (mo.dl + 1) mo.dc (flatV DV.cs (r.dirty ++ [mkd])) := hd3.kp k34 fun j hj hh => hap j hh hj
  have k34' : Kp (fun j => Is mo.la j ∨ Is mo.da j) w3 w4 := k34.mono fun _ _ h => .inl h
  refine loopN (fun s w' => ∃ i : Nat, i ≤ mo.dl + 1 ∧ s.1 = (i : Int) ∧ ∃ xs, Sl w' T_api_Dirty 2 mo.da (mo.dl + 1) mo.dc xs ∧ Kp (fun j => Is mo.la j ∨ Is mo.da j) w3 w') (fun s _ => mo.dl + 1 - s.1.toNat) ⟨0, by omega, rfl, _, sd4, k34'⟩ ?_
  rintro ⟨i0, u2⟩ w5 ⟨i2, hi2, hi0, xs2, sd5, k35⟩ _
  dsimp only at hi0 ⊢
  subst hi0
  refine cond_d (fun hle => ?_) (fun hgt => h w5 (k03.of_no.trans0 k35))
  have wi : IntKind.wrap .i64 ((i2 : Int) + 1) = ((i2 + 1 : Nat) : Int) := by rw [wrap_i64 (by omega) (by omega)]; omega
  refine ⟨by omega, by omega, _, had, ?_⟩
  rw [Int.toNat_natCast]
  rw [had] at sd5
  refine wrD sd5 (by omega) fun w6 xs' h6 k6 => ?_
  rw [wi]
  refine ⟨⟨i2 + 1, by omega, rfl, xs', by rw [had]; exact h6, k35.trans0 (k6.mono fun _ _ h => .inr (by rw [had]; exact h))⟩, ?_⟩
  show mo.dl + 1 - (((i2 + 1 : Nat) : Int)).toNat < mo.dl + 1 - ((i2 : Nat) : Int).toNat
  simp only [Int.toNat_natCast]
  omega
theorem leN_step {bs : List UInt8} {i j s : Nat} (hj : j < s) (h : i + j < bs.length) : leN ((bs.drop (i + j)).take (s - j)) = (bs[i + j]).toNat + 256 * leN ((bs.drop (i + (j + 1))).take (s - (j + 1))) := by
  rw [List.drop_eq_getElem_cons h]
  obtain ⟨d, hd⟩ : ∃ d, s - j = d + 1 := ⟨s - j - 1, by omega⟩
  rw [hd, List.take_succ_cons, leN]
  congr 3
  congr 1
  omega
theorem rnumber_c {w : World} {a : Option Addr} {l c i s : Nat} {bs : List UInt8} {I S : Int} {R : Po} (hr : Rd w a (bvs bs)) (hl : bs.length = l) (hl2 : l < 1000000) (hs : 1 ≤ s) (hs4 : s ≤ 4) (hi : i + s ≤ l) (hI : I = (i : Int)) (hS : S = (s : Int))
    (h : R (.returned (.int .i64 ((leN ((bs.drop i).take s) : Nat) : Int))) w) : GoC Tryz.prog F_ref06_number #[.slice a l c, .int .i64 I, .int .i64 S] w R := by
  subst hl hI hS
  refine S_ref06_number ?_
  unfold W_ref06_number
  refine loopN (fun st w' => w' = w ∧ ∃ j : Nat, j ≤ s ∧ st.2.1 = (j : Int) - 1 ∧ st.1 = ((leN ((bs.drop (i + j)).take (s - j)) : Nat) : Int)) (fun st _ => (st.2.1 + 1).toNat) ⟨rfl, s, Nat.le_refl _, by rw [wrap_i64 (by omega) (by omega)], by rw [Nat.sub_self]; rfl⟩ ?_
  rintro ⟨n0, j0, u⟩ w1 ⟨hw, j, hj, hj0, hn0⟩ _
  dsimp only at hj0 hn0 ⊢
  subst hw hj0 hn0
  refine cond_d (fun hge => ?_) (fun hlt => ?_)
  · obtain ⟨k, rfl⟩ : ∃ k, j = k + 1 := ⟨j - 1, by omega⟩
    have hks : k < s := by omega
    have hkl : i + k < bs.length := by omega
    have e0 : (((k + 1 : Nat) : Int) - 1) = (k : Int) := by omega
    rw [e0]
    have e1 : IntKind.wrap .i64 ((i : Int) + (k : Int)) = ((i + k : Nat) : Int) := by rw [wrap_i64 (by omega) (by omega)]; omega
    rw [e1]
    have hlt := leN_lt ((bs.drop (i + (k + 1))).take (s - (k + 1)))
    have h2 : 256 ^ ((bs.drop (i + (k + 1))).take (s - (k + 1))).length ≤ 256 ^ 4 := Nat.pow_le_pow_right (by omega) (by rw [List.length_take]; omega)
    have h3 : (256 : Nat) ^ 4 = 4294967296 := by decide
    have hx := u8_lt bs[i + k]
    refine rd_u8 hr hkl rfl hkl fun d hd => ⟨_, hd, ⟨rfl, k, by omega, ?_, ?_⟩, ?_⟩
    · rw [wrap_i64 (by omega) (by omega)]
    · rw [wrap_i64 (x := ((leN ((bs.drop (i + (k + 1))).take (s - (k + 1))) : Nat) : Int) * 256) (by omega) (by omega), wrap_i64 (x := ((bs[i + k]).toNat : Int)) (by omega) (by omega), wrap_i64 (by omega) (by omega), leN_step hks hkl]
      omega
    · rw [wrap_i64 (x := (k : Int) - 1) (by omega) (by omega)]
      omega
  · have hj0 : j = 0 := by omega
    subst hj0
    exact h
set_option maxRecDepth 100000 in
theorem rbytes_c {w : World} {a : Option Addr} {c n : Nat} {s : List UInt8} {R : Po} (hr : Rd w a (bvs s)) (hl : s.length = 512) (hc : 512 ≤ c) (hn : n ≤ 100000)
    (hno : isSec s n = false → R (.returned (.tuple #[.slice none 0 0, .bool false])) w)
    (hyes : isSec s n = true → ∀ a' c' w', Sl w' T_uint8 1 a' (bytN s) c' (bvs (bytB s)) → Kp no w w' → Fresh w a' → R (.returned (.tuple #[.slice a' (bytN s) c', .bool true])) w') : GoC Tryz.prog F_ref06_Bytes #[.slice a 512 c, .int .i64 (n : Int)] w R := by
  refine S_ref06_Bytes ?_
  unfold W_ref06_Bytes
  have hbl : bytN s < 65536 := by
    have := leN_lt ((s.drop 5).take 2)
    have h2 : ((s.drop 5).take 2).length = 2 := by rw [List.length_take, List.length_drop]; omega
    rw [h2] at this
    unfold bytN
    omega
  refine cond_ne (fun hh => absurd rfl hh) (fun _ => ?_)
  refine rd_u8 hr (i := 0) (by omega) rfl (by omega) fun d2 hc2 => ⟨_, hc2, cond_ne (fun h1 => hno ?_) (fun h1 => ?_)⟩
  · unfold isSec
    rw [getD_of (by omega), decide_eq_false (by omega)]
    simp
  refine rd_u8 hr (i := 511) (by omega) rfl (by omega) fun d3 hc3 => ⟨_, hc3, cond_ne (fun h2 => hno ?_) (fun h2 => ?_)⟩
  · unfold isSec
    rw [getD_of (k := 511) (by omega), decide_eq_false (p := (s[511]).toNat = 165) (by omega)]
    simp
  refine rnumber_c hr hl (by omega) (by omega) (by omega) (by omega : 1 + 4 ≤ 512) rfl rfl ⟨_, rfl, cond_ne (fun h3 => hno ?_) (fun h3 => ?_)⟩
  · unfold isSec
    rw [decide_eq_false (p := leN ((s.drop 1).take 4) = n) (by omega)]
    simp
  refine rnumber_c hr hl (by omega) (by omega) (by omega) (by omega : 5 + 2 ≤ 512) rfl rfl ⟨_, rfl, ?_⟩
  have hbn : leN ((s.drop 5).take 2) = bytN s := rfl
  rw [hbn]
  refine cond_d (fun h4 => hno ?_) (fun h4 => cond_d (fun h5 => hno ?_) (fun h5 => ?_))
  · unfold isSec
    rw [decide_eq_false (p := 1 ≤ bytN s) (by omega)]
    simp
  · unfold isSec
    rw [decide_eq_false (p := bytN s ≤ 502) (by omega)]
    simp
  have hle : bytN s ≤ 502 := by omega
  have hw7 : IntKind.wrap .i64 (7 + (bytN s : Int)) = ((7 + bytN s : Nat) : Int) := by rw [wrap_i64 (by omega) (by omega)]; omega
  rw [hw7]
  have tl : (s.drop (7 + bytN s)).length = 505 - bytN s := by rw [List.length_drop]; omega
  refine loopN (fun st w' => w' = w ∧ ∃ j : Nat, j ≤ 504 - bytN s ∧ st.1 = ((7 + bytN s + j : Nat) : Int) ∧ zerosB ((s.drop (7 + bytN s)).take j) = true) (fun st _ => 511 - st.1.toNat) ⟨rfl, 0, Nat.zero_le _, rfl, rfl⟩ ?_
  rintro ⟨j0, u2⟩ w2 ⟨hw, j, hj, hj0, hz⟩ _
  dsimp only at hj0 ⊢
  subst hw hj0
  refine cond_d (fun hjl => ?_) (fun hjl => ?_)
  · have hj5 : j < 504 - bytN s := by omega
    have eg : (s.drop (7 + bytN s))[j]'(by omega) = s[7 + bytN s + j]'(by omega) := List.getElem_drop
    refine rd_u8 hr (i := 7 + bytN s + j) (by omega) rfl (by omega) fun d4 hc4 => ⟨_, hc4, cond_ne (fun hne => hno ?_) (fun he => ?_)⟩
    · have hzf : zerosB ((s.drop (7 + bytN s)).take (504 - bytN s)) = false := by
        unfold zerosB
        simp only [Bool.not_eq_false']
        rw [List.any_eq_true]
        refine ⟨(s.drop (7 + bytN s))[j]'(by omega), ?_, decide_eq_true (by rw [eg]; omega)⟩
        rw [List.mem_iff_getElem?]
        exact ⟨j, by rw [List.getElem?_take, if_pos hj5, List.getElem?_eq_getElem (by omega)]⟩
      unfold isSec
      rw [hzf]
      simp
    · have hwj : IntKind.wrap .i64 (((7 + bytN s + j : Nat) : Int) + 1) = ((7 + bytN s + (j + 1) : Nat) : Int) := by rw [wrap_i64 (by omega) (by omega)]; omega
      rw [hwj]
      refine ⟨⟨rfl, j + 1, by omega, rfl, ?_⟩, by simp only [Int.toNat_natCast]; omega⟩
      rw [take_snoc_get _ j (by omega)]
      unfold zerosB at hz ⊢
      rw [List.any_append]
      simp only [Bool.not_eq_true'] at hz ⊢
      rw [hz]
      have : ((s.drop (7 + bytN s))[j]'(by omega)).toNat = 0 := by rw [eg]; omega
      rw [List.any_cons, this]
      rfl
  have hje : j = 504 - bytN s := by omega
  subst hje
  have good : isSec s n = true := by
    unfold isSec
    rw [getD_of (by omega), getD_of (k := 511) (by omega), hz, decide_eq_true (p := (s[0]).toNat = 108) (by omega), decide_eq_true (p := (s[511]).toNat = 165) (by omega), decide_eq_true (p := leN ((s.drop 1).take 4) = n) (by omega), decide_eq_true (p := 1 ≤ bytN s) (by omega), decide_eq_true hle]
    rfl
  refine ⟨by show (0 : Int) ≤ ((7 + bytN s : Nat) : Int) ∧ ((7 + bytN s : Nat) : Int) ≤ ((c : Nat) : Int); omega, by show (0 : Int) ≤ 7 ∧ (7 : Int) ≤ (((Int.toNat ((7 + bytN s : Nat) : Int)) : Nat) : Int); omega, ?_⟩
  have e7 : Int.toNat 7 = 7 := rfl
  rw [e7, Int.toNat_natCast]
  have e77 : 7 + bytN s - 7 = bytN s := by omega
  rw [e77]
  have bl : (bytB s).length = bytN s := by unfold bytB; rw [List.length_take, List.length_drop]; omega
  have rd7 : Rd w2 (subA a c 7 1) (bvs (bytB s)) := rd_part hr (by omega)
  exact append_new er_u8 rd7 (by rw [bvs_len]; omega) (fun hz => by have := rd_none (n := 1) hr (by omega) hz; omega) bvs_one (by omega) (by omega) fun a' c' w' hs' k' hf' _ => ⟨_, _, _, rfl, hyes good a' c' w' hs' k' hf'⟩
theorem is_c {w : World} {v : Value} {z z1 : ByteArray} {a a1 n : Int} {R : Po} (ev : ErrV w v z a n) (hz : n ≠ 0 → z1 = z ∧ a1 = a) (h : ∀ w', Kp no w w' → R (.returned (.bool true)) w') : GoC Tryz.prog F_law06_is #[v, .agg #[.string z1, .int .i64 a1, .int .i64 n]] w R := by
  refine S_law06_is ?_
  unfold W_law06_is
  refine AlF.intro fun b1 w1 hb1e hb1 k1 _ => ⟨_, hb1.at (add1 _ _) rfl, ?_⟩
  rcases ev with ⟨h0, rfl⟩ | ⟨h0, b, rfl, hb⟩
  · subst h0
    exact cond_t rfl (.inl ⟨rfl, h w1 k1⟩)
  · obtain ⟨rfl, rfl⟩ := hz h0
    refine cond_eq (fun hh => absurd hh h0) (fun _ => .inr ⟨_, _, rfl, .inl ⟨rfl, _, rfl, cond_f rfl ?_⟩⟩)
    have hb' := k1.blk hb id
    refine NilF.intro rfl ⟨_, hb'.at rfl rfl, _, hb1.at rfl rfl, ?_⟩
    refine cond_f (by simp) (NilF.intro rfl ⟨_, hb'.at (add1 _ _) rfl, _, hb1.at (add1 _ _) rfl, fun k => cond_ne (fun hh => absurd rfl hh) (fun _ => ?_)⟩)
    have kd := Kp.drew w1 k
    have hb2 := kd.blk hb' id
    have hb12 := kd.blk hb1 id
    refine NilF.intro rfl ⟨_, hb2.at (add1 _ _) rfl, .inr ⟨_, _, rfl, .inl ⟨rfl, _, rfl, ?_⟩⟩⟩
    have kd2 := Kp.drew (w1.drewN k) 1
    have hb13 := kd2.blk hb12 id
    refine ⟨fun w' => Blk w' b1 #[.string z1, .int .i64 a1, .int .i64 n] T_quotaref06_Fault, hb13, _, fun w' hw => hw.at (add1 _ _) rfl, num_c ⟨_, rfl, hb13, ?_⟩⟩
    rw [show (n == n) = true by simp]
    exact h _ ((k1.trans0 kd).trans0 kd2)
/-! Contracts of the document's package for layer 5: within, Live, Dirty, points, none, slots, apart. Conditions: none. -/
theorem within_c {w : World} {n lo hi : Int} {R : Po} (h : R (.returned (.bool (inB n lo hi))) w) : GoC Tryz.prog F_ref05_within #[.int .i64 n, .int .i64 lo, .int .i64 hi] w R := by
  refine S_ref05_within ?_
  unfold W_ref05_within
  unfold inB at h
  refine cond_d (fun h1 => ?_) (fun h1 => ?_)
  · have : decide (n ≤ hi) = decide (lo ≤ n ∧ n ≤ hi) := decide_eq_decide.2 (by omega)
    rw [this]
    exact h
  · have : decide (lo ≤ n ∧ n ≤ hi) = false := decide_eq_false (by omega)
    rw [this] at h
    exact h
theorem inB_t {n lo hi : Int} : inB n lo hi = true ↔ lo ≤ n ∧ n ≤ hi := by unfold inB; simp
theorem inB_f {n lo hi : Int} : inB n lo hi = false ↔ ¬ (lo ≤ n ∧ n ≤ hi) := by unfold inB; simp
theorem qbelB_0 (n : Int) : belB n 0 = true := by unfold belB; simp
def lastL (L : List LV) (k : Nat) : Int := if k = 0 then 0 else (L.getD (k - 1) ⟨0, 0, false, false⟩).tx
def lastD (D : List DV) (k : Nat) : Int := if k = 0 then -1 else (D.getD (k - 1) ⟨0, 0⟩).page
theorem lastL_succ (L : List LV) {k : Nat} (h : k < L.length) : lastL L (k + 1) = (L[k]).tx := by unfold lastL; rw [if_neg (by omega), Nat.add_sub_cancel]; simp [h]
theorem lastD_succ (D : List DV) {k : Nat} (h : k < D.length) : lastD D (k + 1) = (D[k]).page := by unfold lastD; rw [if_neg (by omega), Nat.add_sub_cancel]; simp [h]
theorem lastL_prev (L : List LV) {k : Nat} (h0 : 0 < k) (h : k - 1 < L.length) : lastL L k = (L[k - 1]).tx := by unfold lastL; rw [if_neg (by omega)]; simp [h]
theorem lastD_prev (D : List DV) {k : Nat} (h0 : 0 < k) (h : k - 1 < D.length) : lastD D k = (D[k - 1]).page := by unfold lastD; rw [if_neg (by omega)]; simp [h]
theorem Live_c {w : World} {a : Option Addr} {l c : Nat} {L : List LV} {next : Int} {R : Po} (hr : Rd w a (flatV LV.cs L)) (hl : L.length = l) (hn : next ≤ 2147483648)
    (h : ∀ w', Kp no w w' → R (.returned (.bool (decide (L.length ≤ 32) && liB next 0 0 L))) w') : GoC Tryz.prog F_ref05_Live #[.slice a l c, .int .i64 next] w R := by
  subst hl
  refine S_ref05_Live ?_
  unfold W_ref05_Live
  refine cond_d (fun hg => ?_) (fun hg => ?_)
  · have := h w (Kp.refl _ _)
    rw [decide_eq_false (by omega)] at this
    exact this
  rw [decide_eq_true (by omega : L.length ≤ 32)] at h
  simp only [Bool.true_and] at h
  have out : ∀ b w', Kp no w w' → liB next 0 0 L = b → R (.returned (.bool b)) w' := fun b w' k hb => by subst hb; exact h w' k
  refine loopN (fun s w1 => Kp no w w1 ∧ ∃ k : Nat, k ≤ L.length ∧ s.1 = (k : Int) ∧ 0 ≤ lastL L k ∧ liB next 0 0 L = liB next 0 (lastL L k) (L.drop k)) (fun s _ => L.length - s.1.toNat) ⟨Kp.refl _ _, 0, Nat.zero_le _, rfl, Int.le_refl _, rfl⟩ ?_
  rintro ⟨k0, u⟩ w1 ⟨k1, k, hk, hk0, hp, hli⟩ _
  dsimp only at hk0 ⊢
  subst hk0
  refine cond_d (fun hlt => ?_) (fun hge => ?_)
  · have hkl : k < L.length := by omega
    rw [List.drop_eq_getElem_cons hkl, liB, qbelB_0] at hli
    refine rd_el LV.csl (by omega) (hr.kp0 k1) hkl rfl fun b o ha hc => ?_
    have cell : ∀ q v, (L[k]).cs[q]? = some v → w1.cell? (Addr.add ((⟨b, o, none⟩ : Addr).add (Int.toNat (k : Int) * 4)) q) = some v := fun q v hv => by
      rw [Int.toNat_natCast, add_at, add_at]; exact hc q v hv
    have cell0 : w1.cell? ((⟨b, o, none⟩ : Addr).add (Int.toNat (k : Int) * 4)) = some (.int .i64 (L[k]).tx) := by
      rw [Int.toNat_natCast, add_at]; exact hc 0 _ rfl
    refine ⟨_, _, _, _, ⟨cell0, cell 1 _ rfl, cell 2 _ rfl, cell 3 _ rfl, trivial⟩, ?_⟩
    refine lv_cp L[k] fun b2 w2 h2 => ?_
    have k2 := k1.trans0 h2.kp
    have kd : Kp no w w2.drew := k2.trans0 (Kp.drew w2 1)
    have rdL := hr.kp0 k2
    have hx := L[k]
    have wk : IntKind.wrap .i64 ((k : Int) + 1) = ((k + 1 : Nat) : Int) := by rw [wrap_i64 (by omega) (by omega)]; omega
    refine ⟨fun w' => Kp no w2 w', Kp.drew w2 1, _, fun w' kk => (h2.kp' kk).at rfl rfl, within_c ⟨_, rfl, Kp.drew w2 1, cond_not (cond_b (fun q3 => ?_) (fun q3 => out _ _ kd ?_))⟩⟩
    rotate_left
    · rw [hli]
      have := inB_f.1 q3
      by_cases h1 : lastL L k < (L[k]).tx
      · have : ¬ (L[k]).tx < next := by omega
        simp [this]
      · simp [h1]
    have q3 := inB_t.1 q3
    refine ⟨_, fun w' kk => (h2.kp' kk).at rfl rfl, cond_d (fun q4 => out _ _ kd (by rw [hli]; have : ¬ (L[k]).tx < next := by omega
                                                                                     simp [this])) (fun q4 => ?_)⟩
    have q4 : (L[k]).tx < next := by omega
    -- behind the look at the one ahead
    have rest : lastL L k < (L[k]).tx → (∃ (n9 : Int), (∀ w, Kp no w2 w → w.cell? (Addr.add ⟨b2, 0, none⟩ 1) = some (.int .i64 n9)) ∧ (CallF Tryz.prog F_ref05_within #[(.int .i64 n9), (.int .i64 (1 : Int)), (.int .i64 (2147483647 : Int))] w2.drew (fun r3 w9 => ∃ (q7 : Bool), r3 = (.bool q7) ∧ (Kp no w2 w9 ∧ (cond (!q7) (R (.returned (.bool false)) w9) (∃ (q8 : Bool), (∀ w, Kp no w2 w → w.cell? (Addr.add ⟨b2, 0, none⟩ 2) = some (.bool q8)) ∧ (cond q8 (∃ (q9 : Bool), (∀ w, Kp no w2 w → w.cell? (Addr.add ⟨b2, 0, none⟩ 3) = some (.bool q9)) ∧ (cond q9 (R (.returned (.bool false)) w9) ((fun (s : Int × Unit) w1 => (Kp no w w1 ∧ ∃ k : Nat, k ≤ L.length ∧ s.1 = (k : Int) ∧ 0 ≤ lastL L k ∧ liB next 0 0 L = liB next 0 (lastL L k) (L.drop k)) ∧ L.length - s.1.toNat < L.length - Int.toNat (k : Int)) ((IntKind.wrap .i64 ((k : Int) + (1 : Int))), ()) w9))) ((fun (s : Int × Unit) w1 => (Kp no w w1 ∧ ∃ k : Nat, k ≤ L.length ∧ s.1 = (k : Int) ∧ 0 ≤ lastL L k ∧ liB next 0 0 L = liB next 0 (lastL L k) (L.drop k)) ∧ L.length - s.1.toNat < L.length - Int.toNat (k : Int)) ((IntKind.wrap .i64 ((k : Int) + (1 : Int))), ()) w9)))))) (PanF R))) := by
      intro q5
      refine ⟨_, fun w' kk => (h2.kp' kk).at rfl rfl, within_c ⟨_, rfl, Kp.drew w2 1, cond_not (cond_b (fun q7 => ?_) (fun q7 => out _ _ kd (by rw [hli]; simp [q7])))⟩⟩
      have nx : ((L[k]).c && (L[k]).u) = false → (Kp no w w2.drew ∧ ∃ k' : Nat, k' ≤ L.length ∧ IntKind.wrap .i64 ((k : Int) + 1) = (k' : Int) ∧ 0 ≤ lastL L k' ∧ liB next 0 0 L = liB next 0 (lastL L k') (L.drop k')) ∧ L.length - (IntKind.wrap .i64 ((k : Int) + 1)).toNat < L.length - Int.toNat (k : Int) := fun hcu => by
        refine ⟨⟨kd, k + 1, by omega, wk, by rw [lastL_succ L hkl]; omega, ?_⟩, by rw [wk]; simp only [Int.toNat_natCast]; omega⟩
        rw [hli, lastL_succ L hkl, q7, hcu]
        simp [q4, q5]
      refine ⟨_, fun w' kk => (h2.kp' kk).at rfl rfl, cond_b (fun a8 => ⟨_, fun w' kk => (h2.kp' kk).at rfl rfl, cond_b (fun a9 => out _ _ kd (by rw [hli, a8, a9]; simp)) (fun a9 => nx (by rw [a8, a9]; rfl))⟩) (fun a8 => nx (by rw [a8]; rfl))⟩
    refine cond_d (fun hk0 => ?_) (fun hk0 => rest ?_)
    · have hk1 : k - 1 < L.length := by omega
      have wm : IntKind.wrap .i64 ((k : Int) - 1) = ((k - 1 : Nat) : Int) := by rw [wrap_i64 (by omega) (by omega)]; omega
      have hpv := lastL_prev L (by omega) hk1
      refine ⟨_, fun w' kk => (h2.kp' kk).at rfl rfl, ?_⟩
      rw [wm]
      refine rd_el LV.csl (by omega) rdL hk1 rfl fun b o ha hc => ⟨(L[k - 1]).tx, fun w' kk => ?_, cond_d (fun q5 => out _ _ kd ?_) (fun q5 => rest (by omega))⟩
      · rw [Int.toNat_natCast, add_at]
        exact kk.cell (hc 0 _ rfl) id
      · have : ¬ lastL L k < (L[k]).tx := by omega
        rw [hli]; simp [this]
    · have : k = 0 := by omega
      subst this
      have : lastL L 0 = 0 := rfl
      omega
  · have hke : k = L.length := by omega
    subst hke
    rw [List.drop_length, liB] at hli
    exact out _ _ k1 hli
theorem Dirty_c {w : World} {a : Option Addr} {l c : Nat} {D : List DV} {R : Po} (hr : Rd w a (flatV DV.cs D)) (hl : D.length = l)
    (h : ∀ w', Kp no w w' → R (.returned (.bool (decide (D.length ≤ 16) && diB 0 (-1) D))) w') : GoC Tryz.prog F_ref05_Dirty #[.slice a l c] w R := by
  subst hl
  refine S_ref05_Dirty ?_
  unfold W_ref05_Dirty
  refine cond_d (fun hg => ?_) (fun hg => ?_)
  · have := h w (Kp.refl _ _)
    rw [decide_eq_false (by omega)] at this
    exact this
  rw [decide_eq_true (by omega : D.length ≤ 16)] at h
  simp only [Bool.true_and] at h
  have out : ∀ b w', Kp no w w' → diB 0 (-1) D = b → R (.returned (.bool b)) w' := fun b w' k hb => by subst hb; exact h w' k
  refine loopN (fun s w1 => Kp no w w1 ∧ ∃ k : Nat, k ≤ D.length ∧ s.1 = (k : Int) ∧ -1 ≤ lastD D k ∧ diB 0 (-1) D = diB 0 (lastD D k) (D.drop k)) (fun s _ => D.length - s.1.toNat) ⟨Kp.refl _ _, 0, Nat.zero_le _, rfl, Int.le_refl _, rfl⟩ ?_
  rintro ⟨k0, u⟩ w1 ⟨k1, k, hk, hk0, hp, hli⟩ _
  dsimp only at hk0 ⊢
  subst hk0
  refine cond_d (fun hlt => ?_) (fun hge => ?_)
  · have hkl : k < D.length := by omega
    rw [List.drop_eq_getElem_cons hkl, diB, qbelB_0] at hli
    have kd : Kp no w w1.drew := k1.trans0 (Kp.drew w1 1)
    have rdD := hr.kp0 k1
    have wk : IntKind.wrap .i64 ((k : Int) + 1) = ((k + 1 : Nat) : Int) := by rw [wrap_i64 (by omega) (by omega)]; omega
    refine ⟨fun w' => Kp no w1 w', Kp.drew w1 1, rd_el DV.csl (by omega) rdD hkl rfl fun b o ha hc => ⟨(D[k]).page, fun w' kk => by rw [Int.toNat_natCast, add_at]; exact kk.cell (hc 0 _ rfl) id, within_c ⟨_, rfl, Kp.drew w1 1, cond_not (cond_b (fun q3 => ?_) (fun q3 => out _ _ kd ?_))⟩⟩⟩
    rotate_left
    · rw [hli]
      have := inB_f.1 q3
      by_cases h1 : lastD D k < (D[k]).page
      · have : ¬ (D[k]).page < 64 := by omega
        simp [this]
      · simp [h1]
    have q3 := inB_t.1 q3
    have q4 : (D[k]).page < 64 := by omega
    have rest : lastD D k < (D[k]).page → IdxF a (k : Int) D.length fun d5 => (∃ (n5 : Int), (∀ w, Kp no w1 w → w.cell? (Addr.add (d5.add (Int.toNat (k : Int) * 2)) 1) = some (.int .i64 n5)) ∧ (CallF Tryz.prog F_ref05_within #[(.int .i64 n5), (.int .i64 (1 : Int)), (.int .i64 (2147483647 : Int))] w1.drew (fun r3 w4 => ∃ (q3 : Bool), r3 = (.bool q3) ∧ (Kp no w1 w4 ∧ (cond (!q3) (R (.returned (.bool false)) w4) ((fun (s : Int × Unit) w1 => (Kp no w w1 ∧ ∃ k : Nat, k ≤ D.length ∧ s.1 = (k : Int) ∧ -1 ≤ lastD D k ∧ diB 0 (-1) D = diB 0 (lastD D k) (D.drop k)) ∧ D.length - s.1.toNat < D.length - Int.toNat (k : Int)) ((IntKind.wrap .i64 ((k : Int) + (1 : Int))), ()) w4)))) (PanF R))) := by
      intro q5
      refine rd_el DV.csl (by omega) rdD hkl rfl fun b o ha hc => ⟨(D[k]).since, fun w' kk => by rw [Int.toNat_natCast, add_at, add_at]; exact kk.cell (hc 1 _ rfl) id, within_c ⟨_, rfl, Kp.drew w1 1, cond_not (cond_b (fun q7 => ?_) (fun q7 => out _ _ kd (by rw [hli]; simp [q7])))⟩⟩
      refine ⟨⟨kd, k + 1, by omega, wk, by rw [lastD_succ D hkl]; omega, ?_⟩, by dsimp only; rw [wk]; simp only [Int.toNat_natCast]; omega⟩
      rw [hli, lastD_succ D hkl, q7]
      simp [q4, q5]
    refine cond_d (fun hk0 => ?_) (fun hk0 => rest ?_)
    · have hk1 : k - 1 < D.length := by omega
      have wm : IntKind.wrap .i64 ((k : Int) - 1) = ((k - 1 : Nat) : Int) := by rw [wrap_i64 (by omega) (by omega)]; omega
      have hpv := lastD_prev D (by omega) hk1
      refine rd_el DV.csl (by omega) rdD hkl rfl fun b o ha hc => ⟨(D[k]).page, fun w' kk => by rw [Int.toNat_natCast, add_at]; exact kk.cell (hc 0 _ rfl) id, ?_⟩
      rw [wm]
      refine rd_el DV.csl (by omega) rdD hk1 rfl fun b o ha hc => ⟨(D[k - 1]).page, fun w' kk => ?_, cond_d (fun q5 => out _ _ kd ?_) (fun q5 => rest (by omega))⟩
      · rw [Int.toNat_natCast, add_at]
        exact kk.cell (hc 0 _ rfl) id
      · have : ¬ lastD D k < (D[k]).page := by omega
        rw [hli]; simp [this]
    · have : k = 0 := by omega
      subst this
      have : lastD D 0 = -1 := rfl
      omega
  · have hke : k = D.length := by omega
    subst hke
    rw [List.drop_length, diB] at hli
    exact out _ _ k1 hli
/-! Contracts of the document's package for layer 5: points, none, slots, apart, fields, Check. Conditions: none. -/
theorem qliB_all (next lsn : Int) : ∀ (L : List LV) (last : Int), liB next lsn last L = (liB next 0 last L && L.all fun x => belB x.last lsn)
  | [], _ => rfl
  | x :: r, last => by
    rw [liB, liB, qliB_all next lsn r, qbelB_0, List.all_cons]
    cases decide (last < x.tx) <;> cases decide (x.tx < next) <;> cases inB x.last 1 2147483647 <;> cases belB x.last lsn <;> cases x.c && x.u <;> simp
theorem qdiB_all (lsn : Int) : ∀ (D : List DV) (page : Int), diB lsn page D = (diB 0 page D && D.all fun x => belB x.since lsn)
  | [], _ => rfl
  | x :: r, page => by
    rw [diB, diB, qdiB_all lsn r, qbelB_0, List.all_cons]
    cases decide (page < x.page) <;> cases decide (x.page < 64) <;> cases inB x.since 1 2147483647 <;> cases belB x.since lsn <;> simp
theorem qpoints_c {w : World} {m : Mm} {next lsn : Int} {L : List LV} {D : List DV} {R : Po} (hi : LiIn w m L D) (h : ∀ w', Kp no w w' → R (.returned (.bool (cpB next lsn L D))) w') :
    GoC Tryz.prog F_ref05_points #[.agg #[.slice m.la m.ll m.lc, .slice m.da m.dl m.dc, .int .i64 next], .int .i64 lsn] w R := by
  refine S_ref05_points ?_
  unfold W_ref05_points
  have hll := hi.ll
  have hdl := hi.dl
  have hlb := hi.lb
  have hdb := hi.db
  refine Loc.al (Kp.refl _ w) fun b1 w1 h1 k1 g1 => ?_
  have out : ∀ b w', Kp no w w' → cpB next lsn L D = b → R (.returned (.bool b)) w' := fun b w' k hb => by subst hb; exact h w' k
  refine ⟨_, h1.at rfl rfl, cond_d (fun a1 => out _ _ h1.kp ?_) (fun a1 => ⟨_, h1.at rfl rfl, cond_d (fun a2 => out _ _ h1.kp ?_) (fun a2 => ?_)⟩)⟩
  · unfold cpB
    rw [inB_f.2 (by omega)]
    simp
  · unfold cpB
    rw [inB_f.2 (by omega)]
    simp
  have hin : inB next 1 2147483648 = true := inB_t.2 (by omega)
  refine ⟨_, _, _, h1.at rfl rfl, _, h1.at rfl rfl, Live_c (L := L) (hi.kp0 h1.kp).l hll (by omega) fun w2 k2 => ⟨_, rfl, cond_not (cond_b (fun a3 => ?_) (fun a3 => out _ _ (h1.kp.trans0 k2) ?_))⟩⟩
  rotate_left
  · unfold cpB
    rw [qliB_all]
    cases hd : decide (L.length ≤ 32) <;> cases hq : liB next 0 0 L <;> simp
    rw [hd, hq] at a3
    cases a3
  rw [Bool.and_eq_true] at a3
  have h2 := h1.kp' k2
  refine ⟨_, _, _, h2.at rfl rfl, Dirty_c (D := D) (hi.kp0 h2.kp).d hdl fun w3 k3 => ⟨_, rfl, cond_not (cond_b (fun a4 => ?_) (fun a4 => out _ _ (h2.kp.trans0 k3) ?_))⟩⟩
  rotate_left
  · unfold cpB
    rw [qdiB_all]
    cases hd : decide (D.length ≤ 16) <;> cases hq : diB 0 (-1) D <;> simp
    rw [hd, hq] at a4
    cases a4
  rw [Bool.and_eq_true] at a4
  have h3 := h2.kp' k3
  have hcp : cpB next lsn L D = ((L.all fun x => belB x.last lsn) && D.all fun x => belB x.since lsn) := by
    unfold cpB
    rw [qliB_all, qdiB_all, hin, a3.1, a3.2, a4.1, a4.2]
    simp
  have k13 := k2.trans0 k3
  refine loopN (fun s w4 => w4 = w3 ∧ ∃ k : Nat, k ≤ L.length ∧ s.1 = (k : Int) ∧ (L.take k).all (fun x => belB x.last lsn) = true) (fun s _ => L.length - s.1.toNat) ⟨rfl, 0, Nat.zero_le _, rfl, rfl⟩ ?_
  rintro ⟨k0, u⟩ w4 ⟨hw4, k, hk, hk0, hal⟩ _
  dsimp only at hk0 ⊢
  subst hk0
  rw [hw4]
  refine ⟨_, _, _, h3.at rfl rfl, cond_d (fun hlt => ?_) (fun hge => ?_)⟩
  · have hkl : k < L.length := by omega
    have wk : IntKind.wrap .i64 ((k : Int) + 1) = ((k + 1 : Nat) : Int) := by rw [wrap_i64 (by omega) (by omega)]; omega
    have nx : belB (L[k]).last lsn = true → (w3 = w3 ∧ ∃ k' : Nat, k' ≤ L.length ∧ IntKind.wrap .i64 ((k : Int) + 1) = (k' : Int) ∧ (L.take k').all (fun x => belB x.last lsn) = true) ∧ L.length - (IntKind.wrap .i64 ((k : Int) + 1)).toNat < L.length - ((k : Int)).toNat := fun hb => by
      refine ⟨⟨rfl, k + 1, by omega, wk, ?_⟩, by rw [wk]; simp only [Int.toNat_natCast]; omega⟩
      rw [take_snoc_get L k hkl, List.all_append, hal]
      simp [hb]
    refine cond_ne (fun hn => ?_) (fun hn => nx (by unfold belB; simp [hn]))
    refine ⟨_, _, _, h3.at rfl rfl, rd_el LV.csl (by omega) (hi.kp0 h3.kp).l hkl hll fun b o ha hc => ⟨(L[k]).last, by rw [Int.toNat_natCast, add_at, add_at]; exact hc 1 _ rfl, cond_d (fun hg => out _ _ h3.kp ?_) (fun hg => nx ?_)⟩⟩
    · rw [hcp]
      have : belB (L[k]).last lsn = false := by unfold belB; exact decide_eq_false (by omega)
      have : (L.all fun x => belB x.last lsn) = false := by
        rw [List.all_eq_false]
        exact ⟨L[k], List.getElem_mem hkl, by simp [this]⟩
      rw [this]
      rfl
    · unfold belB
      exact decide_eq_true (by omega)
  have hke : k = L.length := by omega
  subst hke
  rw [List.take_length] at hal
  rw [hal, Bool.true_and] at hcp
  refine loopN (fun s w4 => w4 = w3 ∧ ∃ k : Nat, k ≤ D.length ∧ s.1 = (k : Int) ∧ (D.take k).all (fun x => belB x.since lsn) = true) (fun s _ => D.length - s.1.toNat) ⟨rfl, 0, Nat.zero_le _, rfl, rfl⟩ ?_
  rintro ⟨k0, u⟩ w5 ⟨hw5, k, hk, hk0, hal⟩ _
  dsimp only at hk0 ⊢
  subst hk0
  rw [hw5]
  refine ⟨_, _, _, h3.at rfl rfl, cond_d (fun hlt => ?_) (fun hge => ?_)⟩
  · have hkl : k < D.length := by omega
    have wk : IntKind.wrap .i64 ((k : Int) + 1) = ((k + 1 : Nat) : Int) := by rw [wrap_i64 (by omega) (by omega)]; omega
    have nx : belB (D[k]).since lsn = true → (w3 = w3 ∧ ∃ k' : Nat, k' ≤ D.length ∧ IntKind.wrap .i64 ((k : Int) + 1) = (k' : Int) ∧ (D.take k').all (fun x => belB x.since lsn) = true) ∧ D.length - (IntKind.wrap .i64 ((k : Int) + 1)).toNat < D.length - ((k : Int)).toNat := fun hb => by
      refine ⟨⟨rfl, k + 1, by omega, wk, ?_⟩, by rw [wk]; simp only [Int.toNat_natCast]; omega⟩
      rw [take_snoc_get D k hkl, List.all_append, hal]
      simp [hb]
    refine cond_ne (fun hn => ?_) (fun hn => nx (by unfold belB; simp [hn]))
    refine ⟨_, _, _, h3.at rfl rfl, rd_el DV.csl (by omega) (hi.kp0 h3.kp).d hkl hdl fun b o ha hc => ⟨(D[k]).since, by rw [Int.toNat_natCast, add_at, add_at]; exact hc 1 _ rfl, cond_d (fun hg => out _ _ h3.kp ?_) (fun hg => nx ?_)⟩⟩
    · rw [hcp]
      have : belB (D[k]).since lsn = false := by unfold belB; exact decide_eq_false (by omega)
      rw [List.all_eq_false]
      exact ⟨D[k], List.getElem_mem hkl, by simp [this]⟩
    · unfold belB
      exact decide_eq_true (by omega)
  have hke : k = D.length := by omega
  subst hke
  rw [List.take_length] at hal
  exact out _ _ h3.kp (by rw [hcp, hal])
theorem none_c {w : World} {m : Mm} {next : Int} {R : Po} (h : ∀ w', Kp no w w' → R (.returned (.bool (decide (next = 0 ∧ m.ll = 0 ∧ m.dl = 0)))) w') :
    GoC Tryz.prog F_ref05_none #[.agg #[.slice m.la m.ll m.lc, .slice m.da m.dl m.dc, .int .i64 next]] w R := by
  refine S_ref05_none ?_
  unfold W_ref05_none
  refine Loc.al (Kp.refl _ w) fun b1 w1 h1 k1 g1 => ?_
  have hh := h w1 h1.kp
  have no' : ¬ (next = 0 ∧ m.ll = 0 ∧ m.dl = 0) → R (.returned (.bool false)) w1 := fun hn => by rw [decide_eq_false hn] at hh; exact hh
  refine ⟨_, h1.at rfl rfl, cond_eq (fun a1 => ⟨_, _, _, h1.at rfl rfl, cond_eq (fun a2 => ⟨_, _, _, h1.at rfl rfl, ?_⟩) (fun a2 => no' (by omega))⟩) (fun a1 => no' (by omega))⟩
  have e : (((m.dl : Nat) : Int) == 0) = decide (next = 0 ∧ m.ll = 0 ∧ m.dl = 0) := by
    by_cases hq : m.dl = 0
    · rw [decide_eq_true (by omega)]
      simp [hq]
    · rw [decide_eq_false (by omega)]
      simp [hq]
  rw [e]
  exact hh
theorem rslots_c {w : World} {r : RV} {m : Mm} {R : Po} (h : ∀ w', Kp no w w' → R (.returned (.bool (slB r.wp r.wi r.sp r.si))) w') : GoC Tryz.prog F_ref05_slots #[.agg (r.ca m)] w R := by
  refine S_ref05_slots ?_
  unfold W_ref05_slots
  unfold slB at h
  refine Loc.al (Kp.refl _ w) fun b1 w1 h1 k1 g1 => ?_
  have hh := h w1 h1.kp
  refine ⟨_, h1.at rfl rfl, within_c ⟨_, rfl, cond_b (fun a1 => ?_) (fun a1 => by rw [a1] at hh; exact hh)⟩⟩
  refine ⟨_, h1.at rfl rfl, within_c ⟨_, rfl, cond_b (fun a2 => ?_) (fun a2 => by rw [a1, a2] at hh; exact hh)⟩⟩
  refine ⟨_, h1.at rfl rfl, within_c ⟨_, rfl, cond_b (fun a3 => ?_) (fun a3 => by rw [a1, a2, a3] at hh; exact hh)⟩⟩
  refine ⟨_, h1.at rfl rfl, within_c ⟨_, rfl, cond_b (fun a4 => ?_) (fun a4 => by rw [a1, a2, a3, a4] at hh; exact hh)⟩⟩
  refine ⟨_, h1.at rfl rfl, _, h1.at rfl rfl, ?_⟩
  have e : (r.wp != r.sp) = decide (r.wp ≠ r.sp) := by by_cases hh : r.wp = r.sp <;> simp [hh]
  rw [a1, a2, a3, a4] at hh
  rw [e]
  exact hh
def apB (r : RV) : Bool := decide (r.wp = 0 ∧ r.wi = 0 ∧ r.sp = 0 ∧ r.si = 0 ∧ r.delta = 0 ∧ r.id = 0 ∧ r.grp = 0 ∧ r.lo = 0 ∧ r.hi = 0 ∧ r.val = 0)
theorem apart_c {w : World} {r : RV} {m : Mm} {R : Po} (h : ∀ w', Kp no w w' → R (.returned (.bool (apB r))) w') : GoC Tryz.prog F_ref05_apart #[.agg (r.ca m)] w R := by
  refine S_ref05_apart ?_
  unfold W_ref05_apart
  refine Loc.al (Kp.refl _ w) fun b1 w1 h1 k1 g1 => ?_
  have hh := h w1 h1.kp
  have no' : ¬ (r.wp = 0 ∧ r.wi = 0 ∧ r.sp = 0 ∧ r.si = 0 ∧ r.delta = 0 ∧ r.id = 0 ∧ r.grp = 0 ∧ r.lo = 0 ∧ r.hi = 0 ∧ r.val = 0) → R (.returned (.bool false)) w1 := fun hn => by unfold apB at hh; rw [decide_eq_false hn] at hh; exact hh
  refine ⟨_, _, ⟨h1.at rfl rfl, h1.at rfl rfl, trivial⟩, cond_b (fun a3 => ?_) (fun a3 => no' (by simp at a3; omega))⟩
  refine ⟨_, _, ⟨h1.at rfl rfl, h1.at rfl rfl, trivial⟩, cond_b (fun a4 => ?_) (fun a4 => no' (by simp at a4; omega))⟩
  refine ⟨_, _, _, _, _, ⟨h1.at rfl rfl, h1.at rfl rfl, h1.at rfl rfl, h1.at rfl rfl, h1.at rfl rfl, trivial⟩, cond_b (fun a6 => ?_) (fun a6 => no' (by simp at a6; omega))⟩
  refine ⟨_, h1.at rfl rfl, ?_⟩
  have e : (r.delta == 0) = apB r := by
    simp only [Bool.and_true, Bool.and_eq_true, beq_iff_eq] at a3 a4 a6
    unfold apB
    by_cases hq : r.delta = 0
    · rw [decide_eq_true (by omega)]
      simp [hq]
    · rw [decide_eq_false (by omega)]
      simp [hq]
  rw [e]
  exact hh
/-! Contracts of the document's package for layer 5: fields, Check. Conditions: none. -/
section
variable {r : RV} (hl : inB r.lsn 0 2147483647 = true)
include hl
theorem ok1 (hk : r.kind = 1) (hn : r.next = 0 ∧ r.live.length = 0 ∧ r.dirty.length = 0) : okB r = (inB r.tx 1 2147483647 && (decide (r.prev = 0) && apB r)) := by
  unfold okB apB
  rw [if_neg (by omega), if_neg (by omega), if_neg (by omega), if_neg (by omega), hl, Bool.eq_iff_iff]
  simp only [Bool.and_eq_true, decide_eq_true_eq, and_assoc, hn.1, hn.2.1, hn.2.2, true_and, and_true]
theorem ok2 (hk : r.kind = 2) (hn : r.next = 0 ∧ r.live.length = 0 ∧ r.dirty.length = 0) :
    okB r = (decide (r.tx = 0) && (decide (r.prev = 0) && (decide (r.delta = 0) && (slB r.wp r.wi r.sp r.si && (inB r.id 1 1048576 && (inB r.grp 1 1048576 && decide (r.lo ≤ r.val ∧ r.val ≤ r.hi))))))) := by
  unfold okB
  rw [if_pos hk, hl, Bool.eq_iff_iff]
  simp only [Bool.and_eq_true, decide_eq_true_eq, and_assoc, hn.1, hn.2.1, hn.2.2, true_and, and_true]
  constructor
  · rintro ⟨a, b, c, d, e, f, g, h⟩; exact ⟨f, g, h, a, b, c, d, e⟩
  · rintro ⟨f, g, h, a, b, c, d, e⟩; exact ⟨a, b, c, d, e, f, g, h⟩
theorem ok34 (hk : r.kind = 3 ∨ r.kind = 4) (hn : r.next = 0 ∧ r.live.length = 0 ∧ r.dirty.length = 0) :
    okB r = (inB r.tx 1 2147483647 && ((inB r.prev 1 2147483647 && belB r.prev r.lsn) && (slB r.wp r.wi r.sp r.si && (inB r.id 1 1048576 && decide (r.grp = 0 ∧ r.lo = 0 ∧ r.hi = 0 ∧ r.val = 0))))) := by
  unfold okB
  rw [if_neg (by omega), if_neg (by omega), if_pos hk, hl, Bool.eq_iff_iff]
  simp only [Bool.and_eq_true, decide_eq_true_eq, and_assoc, hn.1, hn.2.1, hn.2.2, true_and, and_true]
  constructor
  · rintro ⟨a, b, c, d, e, f⟩; exact ⟨e, c, d, a, b, f⟩
  · rintro ⟨e, c, d, a, b, f⟩; exact ⟨a, b, c, d, e, f⟩
theorem ok567 (hk : r.kind = 5 ∨ r.kind = 6 ∨ r.kind = 7) (hn : r.next = 0 ∧ r.live.length = 0 ∧ r.dirty.length = 0) :
    okB r = (inB r.tx 1 2147483647 && ((inB r.prev 1 2147483647 && belB r.prev r.lsn) && apB r)) := by
  unfold okB apB
  rw [if_neg (by omega), if_neg (by omega), if_neg (by omega), if_pos hk, hl, Bool.eq_iff_iff]
  simp only [Bool.and_eq_true, decide_eq_true_eq, and_assoc, hn.1, hn.2.1, hn.2.2, true_and, and_true]
  constructor
  · rintro ⟨a, b, c, d⟩; exact ⟨c, a, b, d⟩
  · rintro ⟨c, a, b, d⟩; exact ⟨a, b, c, d⟩
theorem ok8 (hk : r.kind = 8) : okB r = (decide (r.tx = 0) && (decide (r.prev = 0) && (apB r && cpB r.next r.lsn r.live r.dirty))) := by
  unfold okB apB
  rw [if_neg (by omega), if_pos hk, hl, Bool.eq_iff_iff]
  simp only [Bool.and_eq_true, decide_eq_true_eq, and_assoc, true_and, and_true]
  constructor
  · rintro ⟨a, b, c, d⟩; exact ⟨b, c, d.1, d.2.1, d.2.2.1, d.2.2.2.1, d.2.2.2.2.1, d.2.2.2.2.2.1, d.2.2.2.2.2.2.1, d.2.2.2.2.2.2.2.1, d.2.2.2.2.2.2.2.2.1, d.2.2.2.2.2.2.2.2.2, a⟩
  · rintro ⟨b, c, d1, d2, d3, d4, d5, d6, d7, d8, d9, d10, a⟩; exact ⟨a, b, c, d1, d2, d3, d4, d5, d6, d7, d8, d9, d10⟩
end
theorem okB_lsn {r : RV} (h : inB r.lsn 0 2147483647 = false) : okB r = false := by unfold okB; rw [h]; rfl
theorem okB_none {r : RV} (h8 : r.kind ≠ 8) (h : ¬ (r.next = 0 ∧ r.live.length = 0 ∧ r.dirty.length = 0)) : okB r = false := by
  rw [Bool.eq_false_iff]
  intro hh
  unfold okB at hh
  rw [if_neg h8] at hh
  split at hh
  · simp only [Bool.and_eq_true, decide_eq_true_eq] at hh
    omega
  · split at hh
    · simp only [Bool.and_eq_true, decide_eq_true_eq] at hh
      omega
    · split at hh
      · simp only [Bool.and_eq_true, decide_eq_true_eq] at hh
        omega
      · simp only [Bool.and_eq_true, decide_eq_true_eq] at hh
        omega
theorem rfields_c {w : World} {r : RV} {m : Mm} {R : Po} (hi : LiIn w m r.live r.dirty) (hk1 : 1 ≤ r.kind) (hk8 : r.kind ≤ 8) (h : ∀ w', Kp no w w' → R (.returned (.bool (okB r))) w') : GoC Tryz.prog F_ref05_fields #[.agg (r.ca m)] w R := by
  refine S_ref05_fields ?_
  unfold W_ref05_fields
  have hll := hi.ll
  have hdl := hi.dl
  refine Loc.al (Kp.refl _ w) fun b1 w1 h1 k1 g1 => ?_
  have h1 : Loc w w1 b1 (r.ca m) T_api_Record := h1
  have out : ∀ b w', Kp no w1 w' → okB r = b → R (.returned (.bool b)) w' := fun b w' k hb => by subst hb; exact h w' (h1.kp.trans0 k)
  refine ⟨fun _ w' => Kp no w1 w' ∧ inB r.lsn 0 2147483647 = true ∧ (r.kind ≠ 8 → r.next = 0 ∧ r.live.length = 0 ∧ r.dirty.length = 0), ?_, ?_⟩
  · refine ⟨_, h1.at rfl rfl, within_c ⟨_, rfl, cond_not (cond_b (fun a1 => ?_) (fun a1 => out _ _ (Kp.refl _ _) (okB_lsn a1)))⟩⟩
    refine ⟨_, h1.at rfl rfl, cond_ne (fun n8 => ?_) (fun e8 => ⟨Kp.refl _ _, a1, fun hh => absurd e8 hh⟩)⟩
    refine ⟨_, _, _, _, _, _, _, ⟨h1.at rfl rfl, h1.at rfl rfl, h1.at rfl rfl, trivial⟩, none_c (m := m) fun w2 k2 => ⟨_, rfl, cond_not (cond_b (fun a2 => ⟨k2, a1, fun _ => ?_⟩) (fun a2 => out _ _ k2 (okB_none n8 ?_)))⟩⟩
    · have := of_decide_eq_true a2
      omega
    · have := of_decide_eq_false a2
      omega
  rintro _ w2 ⟨k2, hlsn, hnone⟩ _
  have h2 := h1.kp' k2
  refine ⟨_, h2.at rfl rfl, within_c ⟨_, rfl, ?_⟩⟩
  refine ⟨fun s w' => w' = w2 ∧ s.1 = (inB r.prev 1 2147483647 && belB r.prev r.lsn), ?_, ?_⟩
  · refine ⟨_, h2.at rfl rfl, within_c ⟨_, rfl, cond_b (fun a1 => ?_) (fun a1 => ⟨rfl, by rw [a1]; rfl⟩)⟩⟩
    refine ⟨_, h2.at rfl rfl, cond_eq (fun e0 => ⟨rfl, by rw [a1]; unfold belB; simp [e0]⟩) (fun e0 => ⟨_, h2.at rfl rfl, _, h2.at rfl rfl, rfl, ?_⟩)⟩
    rw [a1]
    unfold belB
    exact decide_eq_decide.2 (by omega)
  rintro ⟨q4, u4⟩ w3 ⟨hw3, hq4⟩ _
  dsimp only at hq4
  subst hq4
  rw [hw3]
  refine ⟨_, _, _, _, _, ⟨h2.at rfl rfl, h2.at rfl rfl, h2.at rfl rfl, h2.at rfl rfl, h2.at rfl rfl, trivial⟩, cnt_cp r fun b2 w4 h4 => ?_⟩
  have k4 := k2.trans0 h4.kp
  have l4 := h1.kp' k4
  refine ⟨_, h4.at rfl rfl, within_c ⟨_, rfl, ?_⟩⟩
  have li4 : ∀ w', Kp no w4 w' → LiIn w' m r.live r.dirty := fun w' kk => hi.kp0 (l4.kp.trans0 kk)
  have o4 : ∀ b w', Kp no w4 w' → okB r = b → R (.returned (.bool b)) w' := fun b w' k hb => out b w' (k4.trans0 k) hb
  refine ⟨fun _ w' => w' = w4 ∧ r.kind = 8, ?_, ?_⟩
  · refine ⟨_, l4.at rfl rfl, cond_eq (fun e1 => ?_) fun n1 => cond_eq (fun e2 => ?_) fun n2 => ?_⟩
    · have hok := ok1 hlsn e1 (hnone (by omega))
      refine cond_b (fun a1 => ⟨_, l4.at rfl rfl, cond_eq (fun a2 => ?_) (fun a2 => o4 _ _ (Kp.refl _ _) (by rw [hok, decide_eq_false a2]; simp))⟩) (fun a1 => o4 _ _ (Kp.refl _ _) (by rw [hok, a1]; rfl))
      refine rec_rd l4.blk (apart_c (r := r) (m := m) fun w5 k5 => ⟨_, rfl, o4 _ _ k5 (by rw [hok, a1, decide_eq_true a2]; simp)⟩)
    · have hok := ok2 hlsn e2 (hnone (by omega))
      refine ⟨fun s w' => w' = w4 ∧ s.1 = decide (r.lo ≤ r.val ∧ r.val ≤ r.hi), ?_, ?_⟩
      · refine ⟨_, h4.at rfl rfl, _, h4.at rfl rfl, cond_d (fun a1 => ⟨_, h4.at rfl rfl, _, h4.at rfl rfl, rfl, ?_⟩) (fun a1 => ⟨rfl, ?_⟩)⟩
        · exact decide_eq_decide.2 (by omega)
        · exact (decide_eq_false (by omega)).symm
      rintro ⟨q, u⟩ w5 ⟨hw5, hq⟩ _
      dsimp only at hq
      subst hq
      rw [hw5]
      have no' : ∀ w', Kp no w4 w' → okB r = false → R (.returned (.bool false)) w' := fun w' k hb => o4 _ _ k hb
      refine ⟨_, l4.at rfl rfl, cond_eq (fun a1 => ?_) (fun a1 => no' _ (Kp.refl _ _) (by rw [hok, decide_eq_false a1]; rfl))⟩
      refine ⟨_, l4.at rfl rfl, cond_eq (fun a2 => ?_) (fun a2 => no' _ (Kp.refl _ _) (by rw [hok, decide_eq_false a2]; simp))⟩
      refine ⟨_, l4.at rfl rfl, cond_eq (fun a3 => ?_) (fun a3 => no' _ (Kp.refl _ _) (by rw [hok, decide_eq_false a3]; simp))⟩
      rw [decide_eq_true a1, decide_eq_true a2, decide_eq_true a3] at hok
      simp only [Bool.true_and] at hok
      refine rec_rd l4.blk (rslots_c (r := r) (m := m) fun w5 k5 => ⟨_, rfl, cond_b (fun a4 => ?_) (fun a4 => no' _ k5 (by rw [hok, a4]; rfl))⟩)
      rw [a4, Bool.true_and] at hok
      refine cond_b (fun a5 => ?_) (fun a5 => no' _ k5 (by rw [hok, a5]; rfl))
      rw [a5, Bool.true_and] at hok
      refine ⟨_, (h4.kp' k5).at rfl rfl, within_c ⟨_, rfl, cond_b (fun a6 => o4 _ _ k5 ?_) (fun a6 => no' _ k5 (by rw [hok, a6]; rfl))⟩⟩
      rw [hok, a6, Bool.true_and]
    · refine ⟨fun s w' => w' = w4 ∧ s.1 = decide (r.kind = 3 ∨ r.kind = 4), ?_, ?_⟩
      · refine cond_eq (fun e3 => ⟨rfl, ?_⟩) (fun n3 => ⟨rfl, ?_⟩)
        · rw [decide_eq_true (.inl e3)]
          simp [e3]
        · by_cases e4 : r.kind = 4
          · rw [decide_eq_true (.inr e4)]
            simp [e4]
          · rw [decide_eq_false (by omega)]
            simp [e4]
      rintro ⟨q, u⟩ w5 ⟨hw5, hq⟩ _
      dsimp only at hq
      subst hq
      rw [hw5]
      refine cond_d (fun e34 => ?_) (fun n34 => ?_)
      · have hok := ok34 hlsn e34 (hnone (by omega))
        refine cond_b (fun a1 => ?_) (fun a1 => o4 _ _ (Kp.refl _ _) (by rw [hok, a1]; rfl))
        rw [a1, Bool.true_and] at hok
        refine cond_b (fun a2 => ?_) (fun a2 => o4 _ _ (Kp.refl _ _) (by dsimp only at a2; rw [hok, a2]; rfl))
        dsimp only at a2
        rw [a2, Bool.true_and] at hok
        refine rec_rd l4.blk (rslots_c (r := r) (m := m) fun w5 k5 => ⟨_, rfl, cond_b (fun a4 => ?_) (fun a4 => o4 _ _ k5 (by rw [hok, a4]; rfl))⟩)
        rw [a4, Bool.true_and] at hok
        refine cond_b (fun a5 => ?_) (fun a5 => o4 _ _ k5 (by rw [hok, a5]; rfl))
        rw [a5, Bool.true_and] at hok
        have h5 := h4.kp' k5
        refine ⟨_, _, _, _, _, ⟨h5.at rfl rfl, h5.at rfl rfl, h5.at rfl rfl, h5.at rfl rfl, h5.at rfl rfl, trivial⟩, _, h5.at rfl rfl, o4 _ _ k5 ?_⟩
        rw [hok, Bool.eq_iff_iff]
        simp [and_assoc]
      · refine ⟨fun s w' => w' = w4 ∧ s.1 = decide (r.kind = 5 ∨ r.kind = 6 ∨ r.kind = 7), ?_, ?_⟩
        · refine cond_eq (fun e5 => ⟨rfl, ?_⟩) (fun n5 => cond_eq (fun e6 => ⟨rfl, ?_⟩) (fun n6 => ⟨rfl, ?_⟩))
          · rw [decide_eq_true (.inl e5)]
            simp [e5]
          · rw [decide_eq_true (.inr (.inl e6))]
            simp [e6]
          · by_cases e7 : r.kind = 7
            · rw [decide_eq_true (.inr (.inr e7))]
              simp [e7]
            · rw [decide_eq_false (by omega)]
              simp [e7]
        rintro ⟨q, u⟩ w5 ⟨hw5, hq⟩ _
        dsimp only at hq
        subst hq
        rw [hw5]
        refine cond_d (fun e567 => ?_) (fun n567 => ⟨rfl, by omega⟩)
        have hok := ok567 hlsn e567 (hnone (by omega))
        refine cond_b (fun a1 => ?_) (fun a1 => o4 _ _ (Kp.refl _ _) (by rw [hok, a1]; rfl))
        rw [a1, Bool.true_and] at hok
        refine cond_b (fun a2 => ?_) (fun a2 => o4 _ _ (Kp.refl _ _) (by dsimp only at a2; rw [hok, a2]; rfl))
        dsimp only at a2
        rw [a2, Bool.true_and] at hok
        exact rec_rd l4.blk (apart_c (r := r) (m := m) fun w5 k5 => ⟨_, rfl, o4 _ _ k5 hok⟩)
  rintro _ w5 ⟨hw5, e8⟩ _
  rw [hw5]
  have hok := ok8 hlsn e8
  refine ⟨_, l4.at rfl rfl, cond_eq (fun a1 => ?_) (fun a1 => o4 _ _ (Kp.refl _ _) (by rw [hok, decide_eq_false a1]; rfl))⟩
  refine ⟨_, l4.at rfl rfl, cond_eq (fun a2 => ?_) (fun a2 => o4 _ _ (Kp.refl _ _) (by rw [hok, decide_eq_false a2]; simp))⟩
  rw [decide_eq_true a1, decide_eq_true a2] at hok
  simp only [Bool.true_and] at hok
  refine rec_rd l4.blk (apart_c (r := r) (m := m) fun w5 k5 => ⟨_, rfl, cond_b (fun a3 => ?_) (fun a3 => o4 _ _ k5 (by rw [hok, a3]; rfl))⟩)
  rw [a3, Bool.true_and] at hok
  have l5 := l4.kp' k5
  refine ⟨_, _, _, _, _, _, _, ⟨l5.at rfl rfl, l5.at rfl rfl, l5.at rfl rfl, trivial⟩, _, l5.at rfl rfl, ?_⟩
  exact qpoints_c (m := m) (li4 _ k5) fun w6 k6 => ⟨_, rfl, o4 _ _ (k5.trans0 k6) hok⟩
theorem rcheck_c {w : World} {r : RV} {m : Mm} {R : Po} (hi : LiIn w m r.live r.dirty) (h : ∀ w', Kp no w w' → R (.returned (.int .i64 (chkN r : Int))) w') : GoC Tryz.prog F_ref05_Check #[.agg (r.ca m)] w R := by
  refine S_ref05_Check ?_
  unfold W_ref05_Check
  refine Loc.al (Kp.refl _ w) fun b1 w1 h1 k1 g1 => ?_
  have h1 : Loc w w1 b1 (r.ca m) T_api_Record := h1
  have h70 : (r.kind < 1 ∨ 8 < r.kind) → R (.returned (.int .i64 70)) w1 := fun hh => by
    have := h w1 h1.kp
    unfold chkN at this
    rw [if_pos hh] at this
    exact this
  refine ⟨_, h1.at rfl rfl, cond_d (fun a1 => h70 (.inl a1)) (fun a1 => ⟨_, h1.at rfl rfl, cond_d (fun a2 => h70 (.inr a2)) (fun a2 => ?_)⟩)⟩
  refine rec_rd h1.blk (rfields_c (r := r) (m := m) (hi.kp0 h1.kp) (by omega) (by omega) fun w2 k2 => ⟨_, rfl, ?_⟩)
  have := h w2 (h1.kp.trans0 k2)
  unfold chkN at this
  rw [if_neg (by omega)] at this
  refine cond_not (cond_b (fun a3 => ?_) (fun a3 => ?_))
  · rw [a3] at this
    exact this
  · rw [a3] at this
    exact this
theorem not_is_none {k : Nat} (h : Is none k) : False := by obtain ⟨ad, h0, _⟩ := h; cases h0
theorem form_c {w : World} {n : Nat} {R : Po} (hn : n < 18446744073709551616)
    (h : ∀ a c w', Sl w' T_uint8 1 a (vform n).length c (bvs (vform n)) → Kp no w w' → Fresh w a → R (.returned (.slice a (vform n).length c)) w') : GoC Tryz.prog F_ref02_Form #[.int .u64 (n : Int)] w R := by
  refine S_ref02_Form ?_
  unfold W_ref02_Form
  have h10 := vform_len64 hn
  refine loopN (fun s w1 => ∃ (m : Nat) (a : Option Addr) (c : Nat) (bs1 : List UInt8), s = ((m : Int), (a, bs1.length, c), ()) ∧ m < 18446744073709551616 ∧ Sl w1 T_uint8 1 a bs1.length c (bvs bs1) ∧ bs1 ++ vform m = vform n ∧ Kp no w w1 ∧ Fresh w a) (fun s _ => s.1.toNat)
    ⟨n, none, 0, [], rfl, hn, Sl.nil _ _ _, rfl, Kp.refl _ _, fun k hk => (not_is_none hk).elim⟩ ?_
  rintro s w1 ⟨m, a, c, bs1, rfl, hm, hs, he, k1, hf⟩ _
  dsimp only
  have hlen : bs1.length ≤ 10 := by
    have := congrArg List.length he
    simp only [List.length_append] at this
    omega
  have fin : ∀ (x : UInt8) (K : Option Addr → Nat → Nat → World → Prop), (∀ a' c' w', Sl w' T_uint8 1 a' (bs1 ++ [x]).length c' (bvs (bs1 ++ [x])) → Kp no w w' → Fresh w a' → K a' (bs1 ++ [x]).length c' w') →
      AlF w1 (.cells #[bv x] T_uint8) fun b w2 => RunF Tryz.prog (Builtin.append_ #[T_s_uint8, T_s_uint8] T_s_uint8 #[.slice a bs1.length c, .slice (some ⟨b, 0, none⟩) 1 1]) w2 fun r w3 => ∃ (a2 : Option Addr) (l2 c2 : Nat), r = .slice a2 l2 c2 ∧ K a2 l2 c2 w3 := by
    intro x K hK
    refine push_own er_u8 hs (v := bv x) rfl (by omega) (by omega) fun a' c' w' hs' k' hi' => ?_
    have hl : (bs1 ++ [x]).length = bs1.length + 1 := by simp
    have hh := hK a' c' w' (by rw [hl, bvs_app]; exact hs') (k1.trans k' (fun _ _ h => h) fun k hk hh => by have := hf k hh; omega) (fun k hk => by
      rcases hi' k hk with hh | hh
      · exact hf k hh
      · have := k1.size; omega)
    rw [hl] at hh
    exact hh
  refine cond_d (fun hge => ⟨by decide, ?_⟩) (fun hlt => ?_)
  · have hm128 : ¬ m < 128 := by omega
    have hv : Value.int .u8 (IntKind.wrap .u8 (IntKind.wrap .u8 (Int.tmod (m : Int) 128) + 128)) = bv (UInt8.ofNat (m % 128 + 128)) := by
      rw [Int.tmod_eq_emod_of_nonneg (by omega), wrap_u8 (x := (m : Int) % 128) (by omega) (by omega), wrap_u8 (by omega) (by omega)]
      unfold bv
      rw [ofNat_toNat (by omega)]
      congr 1
    rw [hv]
    refine fin _ _ fun a' c' w' hs' k' hf' => ⟨by decide, ?_⟩
    have hd : IntKind.wrap .u64 (Int.tdiv (m : Int) 128) = ((m / 128 : Nat) : Int) := by
      rw [Int.tdiv_eq_ediv_of_nonneg (by omega), wrap_u64 (by omega) (by omega)]
      omega
    rw [hd]
    refine ⟨⟨m / 128, a', c', _, rfl, by omega, hs', ?_, k', hf'⟩, by simp only [Int.toNat_natCast]; omega⟩
    rw [← he, vform_big hm128, List.append_assoc]
    rfl
  · have hm128 : m < 128 := by omega
    have hv : Value.int .u8 (IntKind.wrap .u8 (m : Int)) = bv (UInt8.ofNat m) := by
      rw [wrap_u8 (by omega) (by omega)]
      unfold bv
      rw [ofNat_toNat (by omega)]
    rw [hv]
    refine fin _ _ fun a' c' w' hs' k' hf' => ?_
    have e : bs1 ++ [UInt8.ofNat m] = vform n := by rw [← he, vform_small hm128]
    rw [e] at hs' ⊢
    exact h a' c' w' hs' k' hf'
theorem sign_c {w : World} {i : Int} {R : Po} (h0 : -9223372036854775808 ≤ i) (h1 : i ≤ 9223372036854775807)
    (h : R (.returned (.int .u64 (zig i : Int))) w) : GoC Tryz.prog F_ref02_Sign #[.int .i64 i] w R := by
  refine S_ref02_Sign ?_
  unfold W_ref02_Sign
  refine cond_d (fun hg => ?_) (fun hg => ?_)
  · have e : IntKind.wrap .u64 (2 * IntKind.wrap .u64 i) = (zig i : Int) := by
      rw [wrap_u64 (x := i) (by omega) (by omega), wrap_u64 (by omega) (by omega)]
      unfold zig
      rw [if_pos (by omega)]
      omega
    rw [e]
    exact h
  · have e : IntKind.wrap .u64 (IntKind.wrap .u64 (2 * IntKind.wrap .u64 (IntKind.wrap .i64 (0 - IntKind.wrap .i64 (i + 1)))) + 1) = (zig i : Int) := by
      rw [wrap_i64 (x := i + 1) (by omega) (by omega), wrap_i64 (by omega) (by omega), wrap_u64 (x := 0 - (i + 1)) (by omega) (by omega), wrap_u64 (x := 2 * (0 - (i + 1))) (by omega) (by omega), wrap_u64 (by omega) (by omega)]
      unfold zig
      rw [if_neg (by omega)]
      omega
    rw [e]
    exact h
theorem unsign_c {w : World} {n : Nat} {R : Po} (hn : n < 18446744073709551616)
    (h : R (.returned (.int .i64 (unzig n))) w) : GoC Tryz.prog F_ref02_Unsign #[.int .u64 (n : Int)] w R := by
  refine S_ref02_Unsign ?_
  unfold W_ref02_Unsign
  have ed : IntKind.wrap .u64 (Int.tdiv (n : Int) 2) = ((n / 2 : Nat) : Int) := by
    rw [Int.tdiv_eq_ediv_of_nonneg (by omega), wrap_u64 (by omega) (by omega)]
    omega
  have em : Int.tmod (n : Int) 2 = ((n % 2 : Nat) : Int) := by
    rw [Int.tmod_eq_emod_of_nonneg (by omega)]
    omega
  rw [ed, em, wrap_i64 (x := ((n / 2 : Nat) : Int)) (by omega) (by omega), wrap_i64 (x := 0 - ((n / 2 : Nat) : Int)) (by omega) (by omega), wrap_i64 (by omega) (by omega)]
  refine ⟨by decide, cond_eq (fun hz => ⟨by decide, ?_⟩) (fun hz => ⟨by decide, ?_⟩)⟩
  · have e : unzig n = ((n / 2 : Nat) : Int) := by unfold unzig; rw [if_pos (by omega)]
    rw [e] at h
    exact h
  · have e : unzig n = 0 - ((n / 2 : Nat) : Int) - 1 := by unfold unzig; rw [if_neg (by omega)]; omega
    rw [e] at h
    exact h
structure Rf (w : World) (B : Nat) (g : Option Addr) (bs : List UInt8) (at_ e : Nat) : Prop where
  ex : ∃ c, Blk w B #[.slice g bs.length c, .int .i64 (at_ : Int), .int .i64 (e : Int)] T_quotaref02_Reader ∧ Sl w T_uint8 1 g bs.length c (bvs bs)
  ap : ¬ Is g B
  le : at_ ≤ bs.length
theorem Rf.kp {S : Nat → Prop} {w w' : World} {B : Nat} {g : Option Addr} {bs : List UInt8} {a e : Nat} (h : Rf w B g bs a e) (k : Kp S w w') (hn : ∀ b, fpW B g b → ¬ S b) : Rf w' B g bs a e := by
  obtain ⟨⟨c, h1, h2⟩, h3, h4⟩ := h
  exact ⟨⟨c, k.blk h1 (hn _ (.inl rfl)), h2.kp k fun b hb => hn b (.inr hb)⟩, h3, h4⟩
theorem Rf.kp0 {w w' : World} {B : Nat} {g : Option Addr} {bs : List UInt8} {a e : Nat} (h : Rf w B g bs a e) (k : Kp no w w') : Rf w' B g bs a e := h.kp k fun _ _ h => h.elim
theorem Rf.lt {w : World} {B : Nat} {g : Option Addr} {bs : List UInt8} {a e : Nat} (h : Rf w B g bs a e) : ∀ k, fpW B g k → k < w.heap.size := by
  obtain ⟨⟨c, h1, h2⟩, h3, _⟩ := h
  rintro k (rfl | hk)
  · exact h1.lt
  · exact h2.lt k hk
theorem refNewReader_c {a : Option Addr} {l c : Nat} {bs : List UInt8} {w : World} {R : Po} (hr : Rd w a (bvs bs)) (hl : bs.length = l) (h0 : a = none → l = 0) (hb : l ≤ 140737488355328)
    (h : ∀ B g w', Rf w' B g bs 0 0 → Kp no w w' → w.heap.size ≤ B → Fresh w g → R (.returned (.pointer (some ⟨B, 0, none⟩))) w') : GoC Tryz.prog F_ref02_NewReader #[.slice a l c] w R := by
  subst hl
  refine S_ref02_NewReader ?_
  unfold W_ref02_NewReader
  refine append_new er_u8 hr (by rw [bvs_len]; omega) h0 bvs_one (by omega) (by omega) fun a' c' w1 hs k1 hf _ => ⟨a', _, c', rfl, ?_⟩
  refine AlF.intro fun B w2 hB hblk k2 _ => h B a' w2 ⟨⟨c', hblk, hs.kp0 k2⟩, fun hh => ?_, Nat.zero_le _⟩ (k1.trans0 k2) (by have := k1.size; omega) hf
  have := hs.lt B hh
  omega
theorem gval_drop_le : ∀ (k : Nat) (l : List UInt8), gval (l.drop k) ≤ gval l
  | 0, l => Nat.le_refl _
  | k + 1, [] => by simp
  | k + 1, c :: r => by
    have := gval_drop_le k r
    rw [List.drop_succ_cons, gval]
    omega
theorem stands_c {w : World} {B : Nat} {g : Option Addr} {bs : List UInt8} {at_ e : Nat} {R : Po} (hr : Rf w B g bs at_ e) (hb : bs.length < 140737488355329)
    (h : ∀ w', Kp no w w' → R (.returned (.tuple #[.int .u64 ((parse (bs.drop at_)).1 : Int), .int .i64 ((parse (bs.drop at_)).2.1 : Int), .int .i64 ((parse (bs.drop at_)).2.2 : Int)])) w') :
    GoC Tryz.prog F_ref02_Reader_stands #[.pointer (some ⟨B, 0, none⟩)] w R := by
  refine S_ref02_Reader_stands ?_
  unfold W_ref02_Reader_stands
  obtain ⟨⟨c, h1, h2⟩, h3, h4⟩ := hr
  refine ⟨g, bs.length, c, by rw [h1.cell]; rfl, ?_⟩
  refine ⟨(at_ : Int), by rw [add_at, h1.cell]; rfl, trivial, ⟨by omega, by simp only [hiOf]; omega⟩, fun k1 => ?_⟩
  rw [Int.toNat_natCast]
  have hrd : Rd (w.drewN k1) (subA g c at_ 1) (bvs (bs.drop at_)) := rd_drop (h2.kp0 (Kp.drew w k1)).rd h2.2.1
  have hlen : bs.length - at_ = (bs.drop at_).length := by simp
  rw [hlen]
  have hrl : (bs.drop at_).length < 140737488355329 := by omega
  have hplt := parse_lt (bs.drop at_)
  generalize bs.drop at_ = rest at *
  have h' := fun hk => h (w.drewN k1) hk
  have k1' : Kp no w (w.drewN k1) := Kp.drew w k1
  have hhl := hiRun_le rest
  refine ⟨fun s w2 => w2 = w.drewN k1 ∧ ∃ k : Nat, s.1 = (k : Int) ∧ k ≤ rest.length ∧ k ≤ 10 ∧ k ≤ hiRun rest ∧ (k = 10 ∨ k = hiRun rest), ?_, ?_⟩
  · refine loopN (fun s w1 => w1 = w.drewN k1 ∧ ∃ k : Nat, s.1 = (k : Int) ∧ k ≤ rest.length ∧ k ≤ 10 ∧ k ≤ hiRun rest) (fun s _ => rest.length - s.1.toNat) ⟨rfl, 0, rfl, Nat.zero_le _, by omega, Nat.zero_le _⟩ ?_
    rintro ⟨kk, u⟩ w1 ⟨hw1, k, hk, hkl, hk10, hhi⟩ _
    dsimp only at hk ⊢
    subst hk
    rw [hw1]
    refine cond_d (fun hlt => cond_d (fun hlt10 => ?_) fun hge => ⟨rfl, k, rfl, hkl, hk10, hhi, by omega⟩) fun hge => ⟨rfl, k, rfl, hkl, hk10, hhi, by omega⟩
    have hkl' : k < rest.length := by omega
    refine hrd.idx (by omega) (by omega) (by rw [bvs_len]; omega) fun b o hg hc => ?_
    refine ⟨((rest[k]).toNat : Int), by rw [Int.toNat_natCast, add_at]; exact hc k _ (bvs_get hkl'), ?_⟩
    have hst := hi_step rest k hhi hkl'
    have hwk : IntKind.wrap .i64 ((k : Int) + 1) = ((k + 1 : Nat) : Int) := by rw [wrap_i64 (by omega) (by omega)]; omega
    rw [hwk]
    refine cond_d (fun hc128 => ?_) (fun hc128 => ?_)
    · exact ⟨⟨rfl, k + 1, rfl, by omega, by omega, hst.1 (by omega)⟩, by simp only [Int.toNat_natCast]; omega⟩
    · exact ⟨rfl, k, rfl, hkl, hk10, hhi, .inr (hst.2 (by omega)).symm⟩
  rintro ⟨kk, u⟩ w2 ⟨hw2, k, hk, hkl, hk10, hhi, hend⟩ _
  dsimp only at hk ⊢
  subst hk
  rw [hw2]
  refine cond_eq (fun h10 => ?_) (fun h10 => ?_)
  · rw [parse_form (l := rest) (by omega)] at h
    exact h _ k1'
  have hk9 : k ≤ 9 := by omega
  have hrun : hiRun rest = k := by omega
  have hnl : ¬ (10 ≤ hiRun rest) := by omega
  refine cond_eq (fun hkl2 => ?_) (fun hkl2 => ?_)
  · have hp : parse rest = (0, 0, 20) := by
      unfold parse
      rw [if_neg hnl, if_pos (by omega)]
    rw [hp] at h
    exact h _ k1'
  have hkl' : k < rest.length := by omega
  have hnl2 : ¬ (hiRun rest = rest.length) := by omega
  refine ⟨fun s w3 => w3 = w.drewN k1 ∧ s.1 = decide ((0 < k ∧ (rest[k]).toNat = 0) ∨ (k = 9 ∧ 1 < (rest[k]).toNat)), ?_, ?_⟩
  · have rdk : ∀ {K : Addr → Prop}, (∀ b o, subA g c at_ 1 = some ⟨b, o, none⟩ → (w.drewN k1).cell? ⟨b, o + k, none⟩ = some (bv rest[k]) → K ⟨b, o, none⟩) → IdxF (subA g c at_ 1) (k : Int) rest.length K :=
      fun hK => hrd.idx (by omega) (by omega) (by rw [bvs_len]; omega) fun b o hg hc => hK b o hg (hc k _ (bvs_get hkl'))
    refine cond_d (fun h0 => ?_) (fun h0 => ?_)
    · refine rdk fun b o hg hc => ⟨((rest[k]).toNat : Int), by rw [Int.toNat_natCast, add_at]; exact hc, ?_⟩
      refine cond_eq (fun hz => ⟨rfl, ?_⟩) (fun hz => ?_)
      · exact (decide_eq_true (.inl ⟨by omega, by omega⟩)).symm
      · refine cond_eq (fun h9 => ?_) (fun h9 => ⟨rfl, (decide_eq_false (by omega)).symm⟩)
        refine rdk fun b o hg hc => ⟨((rest[k]).toNat : Int), by rw [Int.toNat_natCast, add_at]; exact hc, rfl, ?_⟩
        exact decide_eq_decide.2 (by omega)
    · refine cond_eq (fun h9 => ?_) (fun h9 => ⟨rfl, (decide_eq_false (by omega)).symm⟩)
      refine rdk fun b o hg hc => ⟨((rest[k]).toNat : Int), by rw [Int.toNat_natCast, add_at]; exact hc, rfl, ?_⟩
      exact decide_eq_decide.2 (by omega)
  rintro ⟨b10, u10⟩ w3 ⟨hw3, hb10⟩ _
  dsimp only at hb10
  rw [hw3, hb10]
  refine cond_d (fun hyes => ?_) (fun hno => ?_)
  · have hp : parse rest = (0, 0, 22) := by
      unfold parse
      rw [if_neg hnl, if_neg hnl2, hrun, getD_get hkl', if_pos hyes]
    rw [hp] at h
    exact h _ k1'
  have hp : parse rest = (gval (rest.take (k + 1)), k + 1, 0) := by
    unfold parse
    rw [if_neg hnl, if_neg hnl2, hrun, getD_get hkl', if_neg hno]
  have hwk : IntKind.wrap .i64 ((k : Int) + 1) = ((k + 1 : Nat) : Int) := by rw [wrap_i64 (by omega) (by omega)]; omega
  rw [hp] at h hplt
  dsimp only at hplt
  rw [hwk]
  have hL : (rest.take (k + 1)).length = k + 1 := by rw [List.length_take]; omega
  refine loopN (fun s w4 => w4 = w.drewN k1 ∧ ∃ j : Nat, j ≤ k + 1 ∧ s.2.1 = (j : Int) - 1 ∧ s.1 = (gval ((rest.take (k + 1)).drop j) : Int)) (fun s _ => (s.2.1 + 1).toNat)
    ⟨rfl, k + 1, Nat.le_refl _, by dsimp only; omega, by dsimp only; rw [List.drop_eq_nil_of_le (by omega)]; rfl⟩ ?_
  rintro ⟨x0, j0, u⟩ w4 ⟨hw4, j, hj, hj0, hx0⟩ _
  dsimp only at hj0 hx0 ⊢
  subst hj0 hx0
  rw [hw4]
  refine cond_d (fun hge => ?_) (fun hlt => ?_)
  · obtain ⟨i, rfl⟩ : ∃ i, j = i + 1 := ⟨j - 1, by omega⟩
    have hil : i < rest.length := by omega
    have hij : (((i + 1 : Nat) : Int) - 1) = (i : Int) := by omega
    rw [hij]
    refine hrd.idx (by omega) (by omega) (by rw [bvs_len]; omega) fun b o hg hc => ?_
    refine ⟨((rest[i]).toNat : Int), by rw [Int.toNat_natCast, add_at]; exact hc i _ (bvs_get hil), by decide, ?_⟩
    have hcell : (rest.take (k + 1))[i]'(by omega) = rest[i] := List.getElem_take
    have hd : (rest.take (k + 1)).drop i = rest[i] :: (rest.take (k + 1)).drop (i + 1) := by rw [List.drop_eq_getElem_cons (by omega), hcell]
    have hg1 : gval ((rest.take (k + 1)).drop i) = (rest[i]).toNat % 128 + 128 * gval ((rest.take (k + 1)).drop (i + 1)) := by rw [hd, gval]
    have hg2 := gval_drop_le i (rest.take (k + 1))
    have hx := u8_lt rest[i]
    refine ⟨⟨rfl, i, by omega, ?_, ?_⟩, ?_⟩
    · rw [wrap_i64 (by omega) (by omega)]
    · generalize gval ((rest.take (k + 1)).drop (i + 1)) = y at *
      rw [hg1, Int.tmod_eq_emod_of_nonneg (by omega), wrap_u64 (x := (y : Int) * 128) (by omega) (by omega), wrap_u64 (x := ((rest[i]).toNat : Int) % 128) (by omega) (by omega), wrap_u64 (by omega) (by omega)]
      omega
    · rw [wrap_i64 (by omega) (by omega)]
      omega
  · have hj0 : j = 0 := by omega
    subst hj0
    rw [List.drop_zero]
    exact h _ k1'
/-! Contracts of the document's package for layer 2: the reader's calls. Conditions: lengths below 2^46. -/
theorem Rf.set {w : World} {B : Nat} {g : Option Addr} {bs : List UInt8} {a e : Nat} (h : Rf w B g bs a e) {i : Nat} {v : Value} {a' e' : Nat} (hi : i = 1 ∨ i = 2)
    (hv : ∀ c, (#[.slice g bs.length c, .int .i64 (a : Int), .int .i64 (e : Int)] : Array Value).setIfInBounds i v = #[.slice g bs.length c, .int .i64 (a' : Int), .int .i64 (e' : Int)]) (ha : a' ≤ bs.length) {K : World → Prop}
    (hk : ∀ w', Rf w' B g bs a' e' → Kp (fun k => k = B) w w' → K w') : StF w (Addr.add ⟨B, 0, none⟩ i) v K := by
  obtain ⟨⟨c, h1, h2⟩, h3, h4⟩ := h
  rw [add_at]
  refine StF.intro h1 (by rcases hi with rfl | rfl <;> simp) fun w' hb k1 _ => hk w' ⟨⟨c, ?_, h2.kp k1 fun b hib hbB => ?_⟩, h3, ha⟩ k1
  · rw [Nat.zero_add, hv c] at hb; exact hb
  · subst hbB; exact h3 hib
theorem Rf.slice {w : World} {B : Nat} {g : Option Addr} {bs : List UInt8} {a e : Nat} (h : Rf w B g bs a e) : ∃ c, w.cell? ⟨B, 0, none⟩ = some (.slice g bs.length c) := by
  obtain ⟨⟨c, h1, h2⟩, h3, h4⟩ := h
  exact ⟨c, by rw [h1.cell]; rfl⟩
theorem Rf.cat {w : World} {B : Nat} {g : Option Addr} {bs : List UInt8} {a e : Nat} (h : Rf w B g bs a e) : w.cell? (Addr.add ⟨B, 0, none⟩ 1) = some (.int .i64 (a : Int)) := by
  obtain ⟨⟨c, h1, h2⟩, h3, h4⟩ := h
  rw [add_at, h1.cell]; rfl
theorem Rf.cerr {w : World} {B : Nat} {g : Option Addr} {bs : List UInt8} {a e : Nat} (h : Rf w B g bs a e) : w.cell? (Addr.add ⟨B, 0, none⟩ 2) = some (.int .i64 (e : Int)) := by
  obtain ⟨⟨c, h1, h2⟩, h3, h4⟩ := h
  rw [add_at, h1.cell]; rfl
theorem ref_U {w : World} {B : Nat} {g : Option Addr} {bs : List UInt8} {st : Nat × Nat} {m : Nat} {R : Po} (hr : Rf w B g bs st.1 st.2) (hb : bs.length < 140737488355329)
    (h : ∀ w', Rf w' B g bs (rdU bs st m).2.1 (rdU bs st m).2.2 → Kp (fun k => k = B) w w' → R (.returned (.int .u64 ((rdU bs st m).1 : Int))) w') :
    GoC Tryz.prog F_ref02_Reader_U #[.pointer (some ⟨B, 0, none⟩), .int .u64 (m : Int)] w R := by
  obtain ⟨at_, e⟩ := st
  dsimp only at hr
  refine S_ref02_Reader_U ?_
  unfold W_ref02_Reader_U
  refine ⟨_, hr.cerr, cond_ne (fun he => ?_) (fun he => ?_)⟩
  · have hu : rdU bs (at_, e) m = (0, (at_, e)) := by unfold rdU; rw [if_neg]; simp only; omega
    rw [hu] at h
    exact h w hr (Kp.refl _ _)
  · have he0 : e = 0 := by omega
    subst he0
    refine stands_c hr hb fun w1 k1 => ⟨_, _, _, rfl, ?_⟩
    have hr1 := hr.kp0 k1
    have hsz := parse_size (bs.drop at_)
    have hsz' : (parse (bs.drop at_)).2.1 ≤ bs.length - at_ := by simpa using hsz
    have hat := hr.le
    have hpe := parse_err (bs.drop at_)
    have hkp : ∀ w2, Kp (fun k => k = B) w1 w2 → Kp (fun k => k = B) w w2 := fun w2 k2 => k1.trans k2 (fun k _ h => h.elim) (fun k _ h => h)
    have hwrap : IntKind.wrap .i64 ((at_ : Int) + ((parse (bs.drop at_)).2.1 : Int)) = ((at_ + (parse (bs.drop at_)).2.1 : Nat) : Int) := by rw [wrap_i64 (by omega) (by omega)]; omega
    -- the three ends
    have ok : (parse (bs.drop at_)).2.2 = 0 → ¬ m < (parse (bs.drop at_)).1 → NilF (some ⟨B, 0, none⟩) fun d6 => ∃ n7 : Int, w1.cell? (Addr.add d6 1) = some (.int .i64 n7) ∧
        NilF (some ⟨B, 0, none⟩) fun d7 => StF w1 (Addr.add d7 1) (.int .i64 (IntKind.wrap .i64 (n7 + ((parse (bs.drop at_)).2.1 : Int)))) fun w5 => R (.returned (.int .u64 ((parse (bs.drop at_)).1 : Int))) w5 := by
      intro hp hm
      have hu : rdU bs (at_, 0) m = ((parse (bs.drop at_)).1, (at_ + (parse (bs.drop at_)).2.1, 0)) := by unfold rdU; rw [if_pos rfl, if_pos hp, if_neg hm]
      rw [hu] at h
      refine ⟨_, hr1.cat, hr1.set (.inl rfl) (fun c => by rw [hwrap]; rfl) (by dsimp only; omega) fun w2 hr2 k2 => h w2 hr2 (hkp _ k2)⟩
    have bad : ∀ (e' : Nat), rdU bs (at_, 0) m = (0, (at_, e')) → StF w1 (Addr.add ⟨B, 0, none⟩ 2) (.int .i64 (e' : Int)) fun w4 => R (.returned (.int .u64 0)) w4 := by
      intro e' hu
      rw [hu] at h
      exact hr1.set (.inr rfl) (fun c => rfl) hat fun w2 hr2 k2 => h w2 hr2 (hkp _ k2)
    refine cond_eq (fun hp => ?_) (fun hp => ?_)
    · have hp0 : (parse (bs.drop at_)).2.2 = 0 := by omega
      refine cond_d (fun hgt => ?_) (fun hle => ?_)
      · have hgt' : m < (parse (bs.drop at_)).1 := by omega
        have := bad 23 (by unfold rdU; rw [if_pos rfl, if_pos hp0, if_pos hgt'])
        exact cond_t (by decide) this
      · refine cond_ne (fun hh => absurd hp hh) (fun _ => ok hp0 (by omega))
    · have hp0 : (parse (bs.drop at_)).2.2 ≠ 0 := by omega
      refine cond_ne (fun _ => ?_) (fun hh => absurd hh hp)
      exact bad _ (by unfold rdU; rw [if_pos rfl, if_neg hp0])
theorem ref_S {w : World} {B : Nat} {g : Option Addr} {bs : List UInt8} {st : Nat × Nat} {R : Po} (hr : Rf w B g bs st.1 st.2) (hb : bs.length < 140737488355329)
    (h : ∀ w', Rf w' B g bs (rdU bs st 18446744073709551615).2.1 (rdU bs st 18446744073709551615).2.2 → Kp (fun k => k = B) w w' → R (.returned (.int .i64 (unzig (rdU bs st 18446744073709551615).1))) w') :
    GoC Tryz.prog F_ref02_Reader_S #[.pointer (some ⟨B, 0, none⟩)] w R := by
  refine S_ref02_Reader_S ?_
  unfold W_ref02_Reader_S
  refine ref_U (m := 18446744073709551615) hr hb fun w' hr' k' => ⟨_, rfl, ?_⟩
  exact unsign_c (rdU_lt _ _ _) ⟨_, rfl, h w' hr' k'⟩
theorem ref_End {w : World} {B : Nat} {g : Option Addr} {bs : List UInt8} {st : Nat × Nat} {R : Po} (hr : Rf w B g bs st.1 st.2)
    (h : ∀ w', Rf w' B g bs st.1 (if st.2 = 0 ∧ st.1 < bs.length then 21 else st.2) → Kp (fun k => k = B) w w' → R (.returned (.tuple #[])) w') :
    GoC Tryz.prog F_ref02_Reader_End #[.pointer (some ⟨B, 0, none⟩)] w R := by
  obtain ⟨at_, e⟩ := st
  dsimp only at hr h
  refine S_ref02_Reader_End ?_
  unfold W_ref02_Reader_End
  refine ⟨_, hr.cerr, cond_eq (fun he => ?_) (fun he => fun k1 => ?_)⟩
  · obtain ⟨c, hs⟩ := hr.slice
    refine ⟨_, hr.cat, g, bs.length, c, hs, fun k1 => cond_d (fun hlt => ?_) (fun hge => ?_)⟩
    · have hr1 := hr.kp0 (Kp.drew w k1)
      rw [if_pos ⟨by omega, by omega⟩] at h
      exact hr1.set (.inr rfl) (fun c => rfl) hr.le fun w2 hr2 k2 => h w2 hr2 ((Kp.drew w k1).trans k2 (fun k _ h => h.elim) (fun k _ h => h))
    · rw [if_neg (by omega)] at h
      exact h _ (hr.kp0 (Kp.drew w k1)) (Kp.drew w k1).of_no
  · rw [if_neg (by omega)] at h
    exact h _ (hr.kp0 (Kp.drew w k1)) (Kp.drew w k1).of_no
def iv (n : Int) : Value := .int .i64 n
def codes (ns : List Int) : List UInt8 := ns.flatMap fun n => vform n.toNat
theorem codes_snoc (ns : List Int) {k : Nat} (h : k < ns.length) : codes (ns.take (k + 1)) = codes (ns.take k) ++ vform (ns[k]).toNat := flat_snoc h
theorem codes_len {ns : List Int} (h : ∀ n ∈ ns, 0 ≤ n ∧ n ≤ 2147483648) : (codes ns).length ≤ ns.length * 10 := flat_len fun x hx => vlen31 (by have := h x hx; omega)
theorem qput_c {w : World} {ow : Nat → Nat} {a : Option Addr} {l c : Nat} {bs : List UInt8} {a2 : Option Addr} {l2 c2 : Nat} {ns : List Int} {R : Po} (hs : SlT w ow T_uint8 1 a l c (bvs bs) 2) (hl : bs.length = l) (hr : RdR w ow a2 (ns.map iv) 9) (hl2 : ns.length = l2)
    (hn : ∀ n ∈ ns, 0 ≤ n ∧ n ≤ 2147483648) (hb : bs.length ≤ 10000) (hb2 : ns.length ≤ 100)
    (hk : ∀ a' c' w' ow', SlT w' ow' T_uint8 1 a' (bs ++ codes ns).length c' (bvs (bs ++ codes ns)) 2 → Fro (fun t => t ≠ 2) w ow w' ow' → R (.returned (.slice a' (bs ++ codes ns).length c')) w') : GoC Tryz.prog F_ref05_put #[.slice a l c, .slice a2 l2 c2] w R := by
  subst hl hl2
  refine S_ref05_put ?_
  unfold W_ref05_put
  refine loopN (fun s w1 => ∃ k : Nat, k ≤ ns.length ∧ ∃ a1 c1 ow1, s = ((a1, (bs ++ codes (ns.take k)).length, c1), (k : Int), ()) ∧ SlT w1 ow1 T_uint8 1 a1 (bs ++ codes (ns.take k)).length c1 (bvs (bs ++ codes (ns.take k))) 2 ∧ RdR w1 ow1 a2 (ns.map iv) 9 ∧ Fro (fun t => t ≠ 2) w ow w1 ow1) (fun s _ => ns.length - s.2.1.toNat)
    ⟨0, Nat.zero_le _, a, c, ow, by simp [codes], by simpa [codes] using hs, hr, Fro.of_kp' (Kp.refl no w) fun _ _ h => h.elim⟩ ?_
  rintro s w1 ⟨k, hkn, a1, c1, ow1, rfl, hs1, hr1, f1⟩ _
  dsimp only
  refine cond_d (fun hlt => ?_) (fun hge => ?_)
  · have hkl : k < ns.length := by omega
    have hnk := hn _ (List.getElem_mem hkl)
    refine hr1.rd.idx (by omega) hlt (by simp) fun b o ha hc => ⟨ns[k], by rw [Int.toNat_natCast, add_at]; exact hc k _ (by simp [hkl, iv]), ?_⟩
    rw [u64_toNat hnk.1 hnk.2]
    refine form_c (by omega) fun a3 c3 w2 hs3 k2 hf3 => ⟨a3, _, c3, rfl, ?_⟩
    have f2 : Fro (fun _ => True) w1 ow1 w2 (ext ow1 w1.heap.size 9) := Fro.of_kp0 9 k2
    have lc := codes_len (ns := ns.take k) fun n h => hn n (List.mem_of_mem_take h)
    have lv := vlen31 (n := (ns[k]).toNat) (by omega)
    rw [List.length_take] at lc
    have hll : (bs ++ codes (ns.take k)).length ≤ 20000 := by rw [List.length_append]; omega
    have e0 : a3 = none → (vform (ns[k]).toNat).length = 0 := sl_some hs3 (vform_pos _)
    refine app_c er_u8 (hs1.fr f2 trivial) (hs3.rd) (by rw [bvs_len]; omega) e0 bvs_one (by omega) (by omega) fun a4 c4 w3 hs4 k4 f3 => ⟨a4, _, c4, rfl, ?_⟩
    have e : bs ++ codes (ns.take k) ++ vform (ns[k]).toNat = bs ++ codes (ns.take (k + 1)) := by rw [codes_snoc ns hkl, List.append_assoc]
    have el : (bs ++ codes (ns.take k)).length + (vform (ns[k]).toNat).length = (bs ++ codes (ns.take (k + 1))).length := by rw [← e]; simp only [List.length_append]
    rw [el, ← bvs_app, e] at hs4
    rw [el, wk1 hkl (by omega)]
    exact ⟨⟨k + 1, by omega, a4, c4, _, rfl, hs4, (hr1.fr f2 trivial).fr f3 (by omega), (f1.trans (f2.mono fun _ _ => trivial)).trans f3⟩, by simp only [Int.toNat_natCast]; omega⟩
  · have hke : k = ns.length := by omega
    subst hke
    rw [List.take_length] at hs1 ⊢
    exact hk a1 c1 w1 ow1 hs1 f1
theorem rsign_c {w : World} {ow : Nat → Nat} {a : Option Addr} {l c : Nat} {bs : List UInt8} {i : Int} {R : Po} (hs : SlT w ow T_uint8 1 a l c (bvs bs) 2) (hl : bs.length = l) (hi : i64 i) (hb : bs.length ≤ 20000)
    (hk : ∀ a' c' w' ow', SlT w' ow' T_uint8 1 a' (bs ++ vform (zig i)).length c' (bvs (bs ++ vform (zig i))) 2 → Fro (fun t => t ≠ 2) w ow w' ow' → R (.returned (.slice a' (bs ++ vform (zig i)).length c')) w') : GoC Tryz.prog F_ref05_sign #[.slice a l c, .int .i64 i] w R := by
  subst hl
  refine S_ref05_sign ?_
  unfold W_ref05_sign
  have hz := zig_lt hi.1 hi.2
  refine sign_c hi.1 hi.2 ⟨_, rfl, ?_⟩
  refine form_c hz fun a3 c3 w2 hs3 k2 hf3 => ⟨a3, _, c3, rfl, ?_⟩
  have f2 : Fro (fun _ => True) w ow w2 (ext ow w.heap.size 9) := Fro.of_kp0 9 k2
  have lv := vform_len64 hz
  have e0 : a3 = none → (vform (zig i)).length = 0 := sl_some hs3 (vform_pos _)
  refine app_c er_u8 (hs.fr f2 trivial) (hs3.rd) (by rw [bvs_len]; omega) e0 bvs_one (by omega) (by omega) fun a4 c4 w3 hs4 k4 f3 => ⟨a4, _, c4, rfl, ?_⟩
  rw [← bvs_app, ← List.length_append] at hs4
  rw [← List.length_append]
  exact hk a4 c4 w3 _ hs4 ((f2.mono fun _ _ => trivial).trans f3)
theorem tmp9 {w : World} {ow : Nat → Nat} (ns : List Int) {T : TypeId} {K : Nat → World → Prop} (h : ∀ b w', RdR w' (ext ow w.heap.size 9) (some ⟨b, 0, none⟩) (ns.map iv) 9 → Fro (fun _ => True) w ow w' (ext ow w.heap.size 9) → K b w') : AlF w (.cells (ns.map iv).toArray T) K :=
  AlF.intro fun b w' hb hblk k _ => h b w' ⟨rd_cells hblk rfl, fun _ j hj => by
    obtain ⟨ad, had, hj⟩ := hj
    cases had
    exact ext_new (by dsimp only at hj; omega)⟩ (Fro.of_kp0 9 k)
theorem enc_codes (r : RV) : encB r = vform r.kind.toNat ++ (codes ((iof r.kind).map r.gi) ++ ((sof r.kind).flatMap (sgnB r) ++ tailB r)) := by
  unfold encB codes
  rw [List.flatMap_map]
  rfl
theorem fresh_of {w0 w : World} {ow : Nat → Nat} {a : Option Addr} {t : Nat} (ho : Old w0 w ow) (ht : Tg ow t (Is a)) (h0 : t ≠ 0) : Fresh w0 a := fun k hk => by
  rcases Nat.lt_or_ge k w0.heap.size with h | h
  · have := ht k hk
    rw [ho.z k h] at this
    exact absurd this.symm h0
  · exact h
structure Eb (w0 w : World) (ow : Nat → Nat) (b1 b3 : Nat) (r : RV) (m : Mm) : Prop where
  old : Old w0 w ow
  x1 : Blk w b1 (r.ca m) T_api_Record
  t1 : ow b1 = 1
  x3 : Blk w b3 #[.int .i64 r.id, .int .i64 r.grp, .int .i64 r.lo, .int .i64 r.hi, .int .i64 r.val] T_api_Counter
  t3 : ow b3 = 3
theorem Eb.fr {T : Nat → Prop} {w0 w w' : World} {ow ow' : Nat → Nat} {b1 b3 : Nat} {r : RV} {m : Mm} (h : Eb w0 w ow b1 b3 r m) (f : Fro T w ow w' ow') (h0 : T 0) (h1 : T 1) (h3 : T 3) : Eb w0 w' ow' b1 b3 r m := by
  obtain ⟨a, b⟩ := blk_fr h.x1 h.t1 f h1
  obtain ⟨c, d⟩ := blk_fr h.x3 h.t3 f h3
  exact ⟨h.old.fr f h0, a, b, c, d⟩
set_option maxHeartbeats 1000000 in
theorem rencode_c {w : World} {r : RV} {m : Mm} {R : Po} (hi : LiIn w m r.live r.dirty) (h64 : r.w64)
    (hbad : chkN r ≠ 0 → ∀ w', Kp no w w' → R (.returned (.tuple #[.slice none 0 0, .int .i64 (chkN r : Int)])) w')
    (hok : chkN r = 0 → ∀ a c w', Kp no w w' → Sl w' T_uint8 1 a (encB r).length c (bvs (encB r)) → Fresh w a → R (.returned (.tuple #[.slice a (encB r).length c, .int .i64 0])) w') : GoC Tryz.prog F_ref05_Encode #[.agg (r.ca m)] w R := by
  refine S_ref05_Encode ?_
  unfold W_ref05_Encode
  refine AlF.intro fun b1 w1 hb1e hb1 k1 _ => ?_
  have hb1 : Blk w1 b1 (r.ca m) T_api_Record := hb1
  refine rec_rd hb1 (rcheck_c (r := r) (m := m) (hi.kp0 k1) fun w2 k2 => ⟨_, rfl, cond_ne (fun hc => ?_) (fun hc => ?_)⟩)
  · exact hbad (by omega) w2 (k1.trans0 k2)
  have hc0 : chkN r = 0 := by omega
  obtain ⟨hk1, hk8, _⟩ := chk_kind hc0
  have hints := ok_ints hc0
  have hsg := sgn_64 h64
  have o0 : Old w w fun _ => 0 := ⟨Kp.refl _ _, fun _ _ => rfl⟩
  have f1 : Fro (fun _ => True) w (fun _ => 0) w1 (ext (fun _ => 0) w.heap.size 1) := Fro.of_kp0 1 k1
  have f2 : Fro (fun _ => True) w1 (ext (fun _ => 0) w.heap.size 1) w2 (ext (ext (fun _ => 0) w.heap.size 1) w1.heap.size 9) := Fro.of_kp0 9 k2
  have t1 : ext (fun _ => 0) w.heap.size 1 b1 = 1 := ext_new (by omega)
  obtain ⟨x1, t1⟩ := blk_fr hb1 t1 f2 trivial
  have old2 := (o0.fr f1 trivial).fr f2 trivial
  generalize ext (ext (fun _ => 0) w.heap.size 1) w1.heap.size 9 = ow2 at *
  clear f1 f2 o0
  refine ⟨_, x1.at rfl rfl, tmp9 (ow := ow2) [r.kind] fun b2 w3 hr3 f3 => ?_⟩
  refine qput_c (bs := []) (ns := [r.kind]) (slt_nil _ _ _ _ _) rfl hr3 rfl (fun n hn => by rw [List.mem_singleton] at hn; omega) (by simp) (by simp) fun a5 c5 w4 ow4 hs4 f4 => ⟨_, _, _, rfl, ?_⟩
  have hbs0 : [] ++ codes [r.kind] = vform r.kind.toNat := by simp [codes]
  rw [hbs0] at hs4 ⊢
  obtain ⟨x1, t1⟩ := blk_fr x1 t1 f3 trivial
  obtain ⟨x1, t1⟩ := blk_fr x1 t1 f4 (by omega)
  have old4 := (old2.fr f3 trivial).fr f4 (by omega)
  refine ⟨_, _, _, _, _, ⟨x1.at rfl rfl, x1.at rfl rfl, x1.at rfl rfl, x1.at rfl rfl, x1.at rfl rfl, trivial⟩, cnt_cp r fun b3 w5 h5 => ?_⟩
  have f5 : Fro (fun _ => True) w4 ow4 w5 (ext ow4 w4.heap.size 3) := Fro.of_kp0 3 h5.kp
  have hs5 := hs4.fr f5 trivial
  have eb5 : Eb w w5 (ext ow4 w4.heap.size 3) b1 b3 r m := by
    obtain ⟨a, b⟩ := blk_fr x1 t1 f5 trivial
    exact ⟨old4.fr f5 trivial, a, b, h5.blk, ext_new h5.nw⟩
  generalize ext ow4 w4.heap.size 3 = ow5 at *
  clear f5 old4 x1 t1 hs4 f4 f3
  have lkd := vlen31 (n := r.kind.toNat) (by omega)
  have fin : ∀ a c w' ow' bs, bs = encB r → SlT w' ow' T_uint8 1 a bs.length c (bvs bs) 2 → Old w w' ow' → R (.returned (.tuple #[.slice a bs.length c, .int .i64 0])) w' := fun a c w' ow' bs hb hs ho => by
    subst hb
    exact hok hc0 a c w' ho.kp hs.sl (fresh_of ho hs.tg (by omega))
  have lis : ∀ {w' : World} {ow' : Nat → Nat}, Old w w' ow' → LiIn w' m r.live r.dirty := fun ho => hi.kp0 ho.kp
  have ns_ok : ∀ ns : List Int, (iof r.kind).map r.gi = ns → ∀ n ∈ ns, 0 ≤ n ∧ n ≤ 2147483648 := fun ns hns n hn => by
    rw [← hns] at hn
    obtain ⟨o, ho, rfl⟩ := List.mem_map.1 hn
    have := hints o ho
    omega
  have nl : ∀ (k : Int), (iof r.kind).length ≤ 7 := fun _ => iof_len _
  refine ⟨fun s w' => w' = w5 ∧ s = ((a5, (vform r.kind.toNat).length, c5), ()) ∧ r.kind = 8, ?_, ?_⟩
  · refine ⟨_, eb5.x1.at rfl rfl, cond_eq (fun e1 => ?_) fun n1 => cond_eq (fun e2 => ?_) fun n2 => ?_⟩
    · have hI : iof r.kind = [2] := by unfold iof; rw [if_neg (by omega), if_neg (by omega), if_neg (by omega), if_neg (by omega)]
      have hS : sof r.kind = [] := by unfold sof; rw [if_neg (by omega), if_neg (by omega)]
      have he : encB r = vform r.kind.toNat ++ codes [r.tx] := by
        rw [enc_codes, hI, hS]
        unfold tailB
        rw [if_neg (by omega)]
        simp [RV.gi]
      refine ⟨_, eb5.x1.at rfl rfl, tmp9 (ow := ow5) [r.tx] fun b4 w6 hr6 f6 => ?_⟩
      refine qput_c (ns := [r.tx]) (hs5.fr f6 trivial) rfl hr6 rfl (ns_ok _ (by rw [hI]; rfl)) (by omega) (by simp) fun a6 c6 w7 ow7 hs7 f7 => ⟨_, _, _, rfl, ?_⟩
      exact fin _ _ _ _ _ he.symm hs7 ((eb5.old.fr f6 trivial).fr f7 (by omega))
    · have hI : iof r.kind = [4, 5, 6, 7, 9, 10] := by unfold iof; rw [if_pos e2]
      have hS : sof r.kind = [11, 12, 13] := by unfold sof; rw [if_pos e2]
      have he : encB r = vform r.kind.toNat ++ codes [r.wp, r.wi, r.sp, r.si, r.id, r.grp] ++ vform (zig r.lo) ++ vform (zig r.hi) ++ vform (zig r.val) := by
        rw [enc_codes, hI, hS]
        unfold tailB
        rw [if_neg (by omega)]
        simp [RV.gi, sgnB]
      rw [hS] at hsg
      refine ⟨_, eb5.x1.at rfl rfl, _, eb5.x1.at rfl rfl, _, eb5.x1.at rfl rfl, _, eb5.x1.at rfl rfl, _, eb5.x3.at rfl rfl, _, eb5.x3.at rfl rfl, tmp9 (ow := ow5) [r.wp, r.wi, r.sp, r.si, r.id, r.grp] fun b4 w6 hr6 f6 => ?_⟩
      have hns := ns_ok [r.wp, r.wi, r.sp, r.si, r.id, r.grp] (by rw [hI]; rfl)
      have lc := codes_len hns
      refine qput_c (ns := [r.wp, r.wi, r.sp, r.si, r.id, r.grp]) (hs5.fr f6 trivial) rfl hr6 rfl hns (by omega) (by simp) fun a6 c6 w7 ow7 hs7 f7 => ⟨_, _, _, rfl, ?_⟩
      have eb7 := (eb5.fr f6 trivial trivial trivial).fr f7 (by omega) (by omega) (by omega)
      have fd : Fro (fun _ => True) w7 ow7 w7.drew ow7 := Fro.of_kp' (Kp.drew w7 1) fun _ _ h => h.elim
      have i1 := hsg 11 (by simp)
      have i2 := hsg 12 (by simp)
      have i3 := hsg 13 (by simp)
      have z1 := vform_len64 (zig_lt i1.1 i1.2)
      have z2 := vform_len64 (zig_lt i2.1 i2.2)
      have z3 := vform_len64 (zig_lt i3.1 i3.2)
      simp only [RV.gi] at z1 z2 z3
      simp only [List.length_cons, List.length_nil] at lc
      refine ⟨fun w' => Blk w' b3 #[.int .i64 r.id, .int .i64 r.grp, .int .i64 r.lo, .int .i64 r.hi, .int .i64 r.val] T_api_Counter, eb7.x3, _, fun w' hw' => hw'.at rfl rfl, _, fun w' hw' => hw'.at rfl rfl, _, fun w' hw' => hw'.at rfl rfl, ?_⟩
      have eb8 := eb7.fr fd trivial trivial trivial
      refine rsign_c (hs7.fr fd trivial) rfl i1 (by simp only [List.length_append]; omega) fun a8 c8 w8 ow8 hs8 f8 => ⟨_, _, _, rfl, ?_⟩
      have eb8 := eb8.fr f8 (by omega) (by omega) (by omega)
      refine ⟨eb8.x3, rsign_c hs8 rfl i2 (by simp only [List.length_append, RV.gi]; omega) fun a9 c9 w9 ow9 hs9 f9 => ⟨_, _, _, rfl, ?_⟩⟩
      have eb9 := eb8.fr f9 (by omega) (by omega) (by omega)
      refine ⟨eb9.x3, rsign_c hs9 rfl i3 (by simp only [List.length_append, RV.gi]; omega) fun aa ca wa owa hsa fa => ⟨_, _, _, rfl, ?_⟩⟩
      have eba := eb9.fr fa (by omega) (by omega) (by omega)
      exact ⟨eba.x3, fin _ _ _ _ _ he.symm hsa eba.old⟩
    · refine ⟨fun s w' => w' = w5 ∧ s.1 = decide (r.kind = 3 ∨ r.kind = 4), ?_, ?_⟩
      · refine cond_eq (fun e3 => ⟨rfl, ?_⟩) (fun n3 => ⟨rfl, ?_⟩)
        · rw [decide_eq_true (.inl e3)]
          simp [e3]
        · by_cases e4 : r.kind = 4
          · rw [decide_eq_true (.inr e4)]
            simp [e4]
          · rw [decide_eq_false (by omega)]
            simp [e4]
      rintro ⟨q, u⟩ w6 ⟨hw6, hq⟩ _
      dsimp only at hq
      subst hq
      rw [hw6]
      refine cond_d (fun e34 => ?_) (fun n34 => ?_)
      · have hI : iof r.kind = [2, 3, 4, 5, 6, 7, 9] := by unfold iof; rw [if_neg (by omega), if_neg (by omega), if_pos e34]
        have hS : sof r.kind = [8] := by unfold sof; rw [if_neg (by omega), if_pos e34]
        have he : encB r = vform r.kind.toNat ++ codes [r.tx, r.prev, r.wp, r.wi, r.sp, r.si, r.id] ++ vform (zig r.delta) := by
          rw [enc_codes, hI, hS]
          unfold tailB
          rw [if_neg (by omega)]
          simp [RV.gi, sgnB]
        rw [hS] at hsg
        have hns := ns_ok [r.tx, r.prev, r.wp, r.wi, r.sp, r.si, r.id] (by rw [hI]; rfl)
        have lc := codes_len hns
        simp only [List.length_cons, List.length_nil] at lc
        have fd : Fro (fun _ => True) w5 ow5 w5.drew ow5 := Fro.of_kp' (Kp.drew w5 1) fun _ _ h => h.elim
        have eb6 := eb5.fr fd trivial trivial trivial
        refine ⟨fun w' => Blk w' b1 (r.ca m) T_api_Record ∧ Blk w' b3 #[.int .i64 r.id, .int .i64 r.grp, .int .i64 r.lo, .int .i64 r.hi, .int .i64 r.val] T_api_Counter, ⟨eb5.x1, eb5.x3⟩, _, fun w' hw' => hw'.1.at rfl rfl, _, fun w' hw' => hw'.1.at rfl rfl, _, fun w' hw' => hw'.1.at rfl rfl, _, fun w' hw' => hw'.1.at rfl rfl, _, fun w' hw' => hw'.1.at rfl rfl, _, fun w' hw' => hw'.1.at rfl rfl, _, fun w' hw' => hw'.2.at rfl rfl, _, fun w' hw' => hw'.1.at rfl rfl, ?_⟩
        refine tmp9 (ow := ow5) [r.tx, r.prev, r.wp, r.wi, r.sp, r.si, r.id] fun b4 w6 hr6 f6 => ?_
        have eb7 := eb6.fr f6 trivial trivial trivial
        refine ⟨⟨eb7.x1, eb7.x3⟩, qput_c (ns := [r.tx, r.prev, r.wp, r.wi, r.sp, r.si, r.id]) ((hs5.fr fd trivial).fr f6 trivial) rfl hr6 rfl hns (by omega) (by simp) fun a6 c6 w7 ow7 hs7 f7 => ⟨_, _, _, rfl, ?_⟩⟩
        have eb8 := eb7.fr f7 (by omega) (by omega) (by omega)
        refine ⟨⟨eb8.x1, eb8.x3⟩, rsign_c hs7 rfl (hsg 8 (by simp)) (by simp only [List.length_append]; omega) fun a8 c8 w8 ow8 hs8 f8 => ⟨_, _, _, rfl, ?_⟩⟩
        have eb9 := eb8.fr f8 (by omega) (by omega) (by omega)
        exact ⟨⟨eb9.x1, eb9.x3⟩, fin _ _ _ _ _ he.symm hs8 eb9.old⟩
      · refine ⟨fun s w' => w' = w5 ∧ s.1 = decide (r.kind = 5 ∨ r.kind = 6 ∨ r.kind = 7), ?_, ?_⟩
        · refine cond_eq (fun e5 => ⟨rfl, ?_⟩) (fun n5 => cond_eq (fun e6 => ⟨rfl, ?_⟩) (fun n6 => ⟨rfl, ?_⟩))
          · rw [decide_eq_true (.inl e5)]
            simp [e5]
          · rw [decide_eq_true (.inr (.inl e6))]
            simp [e6]
          · by_cases e7 : r.kind = 7
            · rw [decide_eq_true (.inr (.inr e7))]
              simp [e7]
            · rw [decide_eq_false (by omega)]
              simp [e7]
        rintro ⟨q, u⟩ w6 ⟨hw6, hq⟩ _
        dsimp only at hq
        subst hq
        rw [hw6]
        refine cond_d (fun e567 => ?_) (fun n567 => ⟨rfl, rfl, by omega⟩)
        have hI : iof r.kind = [2, 3] := by unfold iof; rw [if_neg (by omega), if_neg (by omega), if_neg (by omega), if_pos e567]
        have hS : sof r.kind = [] := by unfold sof; rw [if_neg (by omega), if_neg (by omega)]
        have he : encB r = vform r.kind.toNat ++ codes [r.tx, r.prev] := by
          rw [enc_codes, hI, hS]
          unfold tailB
          rw [if_neg (by omega)]
          simp [RV.gi]
        refine ⟨_, eb5.x1.at rfl rfl, _, eb5.x1.at rfl rfl, tmp9 (ow := ow5) [r.tx, r.prev] fun b4 w6 hr6 f6 => ?_⟩
        refine qput_c (ns := [r.tx, r.prev]) (hs5.fr f6 trivial) rfl hr6 rfl (ns_ok _ (by rw [hI]; rfl)) (by omega) (by simp) fun a6 c6 w7 ow7 hs7 f7 => ⟨_, _, _, rfl, ?_⟩
        exact fin _ _ _ _ _ he.symm hs7 ((eb5.old.fr f6 trivial).fr f7 (by omega))
  rintro _ w6 ⟨hw6, hs, e8⟩ _
  subst hs
  dsimp only
  rw [hw6]
  obtain ⟨hl32, hd16, hL, hD⟩ := ok_lists hc0 e8
  have hll := hi.ll
  have hdl := hi.dl
  have hI : iof r.kind = [16] := by unfold iof; rw [if_neg (by omega), if_pos e8]
  have hS : sof r.kind = [] := by unfold sof; rw [if_neg (by omega), if_neg (by omega)]
  have hnx := hints 16 (by rw [hI]; simp)
  have hnx : 0 ≤ r.next ∧ r.next ≤ 2147483648 := ⟨hnx.1, hnx.2.1⟩
  have he : encB r = vform r.kind.toNat ++ codes [r.next, (r.live.length : Int)] ++ r.live.flatMap lvB ++ codes [(r.dirty.length : Int)] ++ r.dirty.flatMap dvB := by
    rw [enc_codes, hI, hS]
    unfold tailB
    rw [if_pos e8]
    simp [RV.gi, codes]
  have llv : ∀ x ∈ r.live, (lvB x).length ≤ 30 := fun x hx => by
    have hh := hL x hx
    have h1 := vlen31 (n := x.tx.toNat) (by omega)
    have h2 := vlen31 (n := x.last.toNat) (by omega)
    have h3 : (vform (stN x)).length ≤ 10 := vlen31 (by unfold stN; split <;> (try split) <;> omega)
    unfold lvB
    simp only [List.length_append]
    omega
  have ldv : ∀ x ∈ r.dirty, (dvB x).length ≤ 20 := fun x hx => by
    have hh := hD x hx
    have h1 := vlen31 (n := x.page.toNat) (by omega)
    have h2 := vlen31 (n := x.since.toNat) (by omega)
    unfold dvB
    simp only [List.length_append]
    omega
  refine ⟨_, eb5.x1.at rfl rfl, _, _, _, eb5.x1.at rfl rfl, ?_⟩
  rw [← hll]
  refine tmp9 (ow := ow5) [r.next, (r.live.length : Int)] fun b4 w7 hr7 f7 => ?_
  have hns : ∀ n ∈ [r.next, (r.live.length : Int)], 0 ≤ n ∧ n ≤ 2147483648 := fun n hn => by
    simp only [List.mem_cons, List.mem_nil_iff, or_false] at hn
    rcases hn with rfl | rfl <;> omega
  have lc := codes_len hns
  simp only [List.length_cons, List.length_nil] at lc
  refine qput_c (ns := [r.next, (r.live.length : Int)]) (hs5.fr f7 trivial) rfl hr7 rfl hns (by omega) (by simp) fun a6 c6 w8 ow8 hs8 f8 => ⟨_, _, _, rfl, ?_⟩
  have eb8 := (eb5.fr f7 trivial trivial trivial).fr f8 (by omega) (by omega) (by omega)
  generalize hp : vform r.kind.toNat ++ codes [r.next, (r.live.length : Int)] = pre at he hs8 ⊢
  have lpre : pre.length ≤ 40 := by rw [← hp, List.length_append]; omega
  refine loopN (fun s w' => ∃ k : Nat, k ≤ r.live.length ∧ ∃ a c ow, s = ((a, (pre ++ (r.live.take k).flatMap lvB).length, c), (k : Int), ()) ∧ SlT w' ow T_uint8 1 a (pre ++ (r.live.take k).flatMap lvB).length c (bvs (pre ++ (r.live.take k).flatMap lvB)) 2 ∧ Eb w w' ow b1 b3 r m) (fun s _ => r.live.length - s.2.1.toNat)
    ⟨0, Nat.zero_le _, a6, c6, ow8, by simp, by simpa using hs8, eb8⟩ ?_
  rintro s w9 ⟨k, hk, a9, c9, ow9, rfl, hs9, eb9⟩ _
  dsimp only
  have lk : ((r.live.take k).flatMap lvB).length ≤ 960 := by
    have := flat_len (f := lvB) (n := 30) (L := r.live.take k) fun x hx => llv x (List.mem_of_mem_take hx)
    rw [List.length_take] at this
    omega
  refine ⟨_, _, _, eb9.x1.at rfl rfl, cond_d (fun hlt => ?_) (fun hge => ?_)⟩
  · have hkl : k < r.live.length := by omega
    have hx := hL _ (List.getElem_mem hkl)
    refine ⟨_, _, _, eb9.x1.at rfl rfl, rd_el LV.csl (by omega) (lis eb9.old).l hkl hll fun b o ha hcl => ?_⟩
    have cell : ∀ q v, (r.live[k]).cs[q]? = some v → w9.cell? (Addr.add ((⟨b, o, none⟩ : Addr).add (Int.toNat (k : Int) * 4)) q) = some v := fun q v hv => by
      rw [Int.toNat_natCast, add_at, add_at]; exact hcl q v hv
    have cell0 : w9.cell? ((⟨b, o, none⟩ : Addr).add (Int.toNat (k : Int) * 4)) = some (.int .i64 (r.live[k]).tx) := by
      rw [Int.toNat_natCast, add_at]; exact hcl 0 _ rfl
    refine ⟨_, _, _, _, ⟨cell0, cell 1 _ rfl, cell 2 _ rfl, cell 3 _ rfl, trivial⟩, ?_⟩
    refine lv_cp r.live[k] fun b9 wa ha9 => ?_
    have fa : Fro (fun _ => True) w9 ow9 wa (ext ow9 w9.heap.size 9) := Fro.of_kp0 9 ha9.kp
    have hsa := hs9.fr fa trivial
    have eba := eb9.fr fa trivial trivial trivial
    generalize ext ow9 w9.heap.size 9 = owa at *
    have hcu : ¬ ((r.live[k]).c = true ∧ (r.live[k]).u = true) := by
      obtain ⟨_, _, ho⟩ := chk_kind hc0
      unfold okB at ho
      rw [if_neg (by omega), if_pos e8] at ho
      simp only [Bool.and_eq_true, cpB] at ho
      have hli := ho.2.1.1.2
      have : ∀ (last : Int) (L : List LV), liB r.next r.lsn last L = true → ∀ x ∈ L, ¬ (x.c = true ∧ x.u = true) := by
        intro last L
        induction L generalizing last with
        | nil => intro _ x hx; cases hx
        | cons y t ih =>
          intro h x hx
          simp only [liB, Bool.and_eq_true, Bool.not_eq_true'] at h
          rcases List.mem_cons.1 hx with rfl | hx
          · intro hh
            have := h.1.2
            rw [hh.1, hh.2] at this
            cases this
          · exact ih _ h.2 x hx
      exact this _ _ hli _ (List.getElem_mem hkl)
    refine ⟨fun s w' => w' = wa ∧ s.1 = if (r.live[k]).c then 1 else 0, ?_, ?_⟩
    · exact ⟨_, ha9.at rfl rfl, cond_b (fun q => ⟨rfl, by rw [if_pos q]⟩) (fun q => ⟨rfl, by rw [q]; rfl⟩)⟩
    rintro ⟨q1, u1⟩ wb ⟨hwb, hq1⟩ _
    dsimp only at hq1
    rw [hwb]
    refine ⟨fun s w' => w' = wa ∧ s.1 = (stN r.live[k] : Int), ?_, ?_⟩
    · refine ⟨_, ha9.at rfl rfl, cond_b (fun q => ⟨rfl, ?_⟩) (fun q => ⟨rfl, ?_⟩)⟩
      · have : (r.live[k]).c = false := by
          cases h : (r.live[k]).c
          · rfl
          · exact absurd ⟨h, q⟩ hcu
        unfold stN
        rw [this, q]
        rfl
      · dsimp only
        rw [hq1]
        unfold stN
        rw [q]
        cases (r.live[k]).c <;> rfl
    rintro ⟨q2, u2⟩ wc ⟨hwc, hq2⟩ _
    dsimp only at hq2
    subst hq2
    rw [hwc]
    have hst : stN r.live[k] ≤ 2 := by unfold stN; split <;> (try split) <;> omega
    refine ⟨_, ha9.at rfl rfl, _, ha9.at rfl rfl, tmp9 (ow := owa) [(r.live[k]).tx, (r.live[k]).last, (stN r.live[k] : Int)] fun bd wd hrd fd => ?_⟩
    have hns : ∀ n ∈ [(r.live[k]).tx, (r.live[k]).last, (stN r.live[k] : Int)], 0 ≤ n ∧ n ≤ 2147483648 := fun n hn => by
      simp only [List.mem_cons, List.mem_nil_iff, or_false] at hn
      rcases hn with rfl | rfl | rfl <;> omega
    refine qput_c (ns := [(r.live[k]).tx, (r.live[k]).last, (stN r.live[k] : Int)]) (hsa.fr fd trivial) rfl hrd rfl hns (by rw [List.length_append]; omega) (by simp) fun ae ce we owe hse fe => ⟨_, _, _, rfl, ?_⟩
    have hcd : pre ++ (r.live.take k).flatMap lvB ++ codes [(r.live[k]).tx, (r.live[k]).last, (stN r.live[k] : Int)] = pre ++ (r.live.take (k + 1)).flatMap lvB := by
      rw [flat_snoc hkl]
      simp [codes, lvB]
    rw [hcd] at hse ⊢
    rw [wk1 hkl (by omega)]
    exact ⟨⟨k + 1, by omega, _, _, _, rfl, hse, (eba.fr fd trivial trivial trivial).fr fe (by omega) (by omega) (by omega)⟩, by simp only [Int.toNat_natCast]; omega⟩
  have hke : k = r.live.length := by omega
  subst hke
  rw [List.take_length] at hs9 lk ⊢
  refine ⟨_, _, _, eb9.x1.at rfl rfl, ?_⟩
  rw [← hdl]
  refine tmp9 (ow := ow9) [(r.dirty.length : Int)] fun ba wa hra fa => ?_
  have hns : ∀ n ∈ [(r.dirty.length : Int)], 0 ≤ n ∧ n ≤ 2147483648 := fun n hn => by
    simp only [List.mem_cons, List.mem_nil_iff, or_false] at hn
    omega
  have lc := codes_len hns
  simp only [List.length_cons, List.length_nil] at lc
  refine qput_c (ns := [(r.dirty.length : Int)]) (hs9.fr fa trivial) rfl hra rfl hns (by rw [List.length_append]; omega) (by simp) fun ab cb wb owb hsb fb => ⟨_, _, _, rfl, ?_⟩
  have ebb := (eb9.fr fa trivial trivial trivial).fr fb (by omega) (by omega) (by omega)
  generalize hp2 : pre ++ r.live.flatMap lvB ++ codes [(r.dirty.length : Int)] = pre2 at he hsb ⊢
  have lpre2 : pre2.length ≤ 1100 := by rw [← hp2]; simp only [List.length_append]; omega
  refine loopN (fun s w' => ∃ k : Nat, k ≤ r.dirty.length ∧ ∃ a c ow, s = ((a, (pre2 ++ (r.dirty.take k).flatMap dvB).length, c), (k : Int), ()) ∧ SlT w' ow T_uint8 1 a (pre2 ++ (r.dirty.take k).flatMap dvB).length c (bvs (pre2 ++ (r.dirty.take k).flatMap dvB)) 2 ∧ Eb w w' ow b1 b3 r m) (fun s _ => r.dirty.length - s.2.1.toNat)
    ⟨0, Nat.zero_le _, ab, cb, owb, by simp, by simpa using hsb, ebb⟩ ?_
  rintro s w9 ⟨k, hk, a9, c9, ow9, rfl, hs9, eb9⟩ _
  dsimp only
  have lk : ((r.dirty.take k).flatMap dvB).length ≤ 320 := by
    have := flat_len (f := dvB) (n := 20) (L := r.dirty.take k) fun x hx => ldv x (List.mem_of_mem_take hx)
    rw [List.length_take] at this
    omega
  refine ⟨_, _, _, eb9.x1.at rfl rfl, cond_d (fun hlt => ?_) (fun hge => ?_)⟩
  · have hkl : k < r.dirty.length := by omega
    have hx := hD _ (List.getElem_mem hkl)
    refine ⟨fun w' => Blk w' b1 (r.ca m) T_api_Record ∧ Kp no w w', ⟨eb9.x1, eb9.old.kp.trans0 (Kp.drew w9 1)⟩, _, _, _, fun w' hw' => hw'.1.at rfl rfl, rd_el DV.csl (by omega) (lis eb9.old).d hkl hdl fun b o ha hcl => ⟨(r.dirty[k]).page, fun w' hw' => ?_, ?_⟩⟩
    · refine rd_el (K := fun d1 => w'.cell? (d1.add (Int.toNat (k : Int) * 2)) = some (.int .i64 (r.dirty[k]).page)) DV.csl (by omega) (hi.kp0 hw'.2).d hkl hdl (fun b' o' ha' hcl' => by rw [Int.toNat_natCast, add_at]; exact hcl' 0 _ rfl) |>.2.2.elim fun ad h => ?_
      rw [h.1] at ha
      cases ha
      exact h.2
    refine ⟨_, _, _, fun w' hw' => hw'.1.at rfl rfl, rd_el DV.csl (by omega) (lis eb9.old).d hkl hdl fun b o ha hcl => ⟨(r.dirty[k]).since, fun w' hw' => ?_, ?_⟩⟩
    · refine rd_el (K := fun d1 => w'.cell? (Addr.add (d1.add (Int.toNat (k : Int) * 2)) 1) = some (.int .i64 (r.dirty[k]).since)) DV.csl (by omega) (hi.kp0 hw'.2).d hkl hdl (fun b' o' ha' hcl' => by rw [Int.toNat_natCast, add_at, add_at]; exact hcl' 1 _ rfl) |>.2.2.elim fun ad h => ?_
      rw [h.1] at ha
      cases ha
      exact h.2
    have fd : Fro (fun _ => True) w9 ow9 w9.drew ow9 := Fro.of_kp' (Kp.drew w9 1) fun _ _ h => h.elim
    have ebd := eb9.fr fd trivial trivial trivial
    refine tmp9 (ow := ow9) [(r.dirty[k]).page, (r.dirty[k]).since] fun bd wd hrd fe => ?_
    have ebe := ebd.fr fe trivial trivial trivial
    have hns : ∀ n ∈ [(r.dirty[k]).page, (r.dirty[k]).since], 0 ≤ n ∧ n ≤ 2147483648 := fun n hn => by
      simp only [List.mem_cons, List.mem_nil_iff, or_false] at hn
      rcases hn with rfl | rfl <;> omega
    refine ⟨⟨ebe.x1, ebe.old.kp⟩, qput_c (ns := [(r.dirty[k]).page, (r.dirty[k]).since]) ((hs9.fr fd trivial).fr fe trivial) rfl hrd rfl hns (by rw [List.length_append]; omega) (by simp) fun ae ce we owe hse ff => ⟨_, _, _, rfl, ?_⟩⟩
    have hcd : pre2 ++ (r.dirty.take k).flatMap dvB ++ codes [(r.dirty[k]).page, (r.dirty[k]).since] = pre2 ++ (r.dirty.take (k + 1)).flatMap dvB := by
      rw [flat_snoc hkl]
      simp [codes, dvB]
    rw [hcd] at hse ⊢
    rw [wk1 hkl (by omega)]
    have ebf := ebe.fr ff (by omega) (by omega) (by omega)
    exact ⟨⟨ebf.x1, ebf.old.kp⟩, ⟨k + 1, by omega, _, _, _, rfl, hse, ebf⟩, by simp only [Int.toNat_natCast]; omega⟩
  have hke : k = r.dirty.length := by omega
  subst hke
  rw [List.take_length] at hs9 ⊢
  exact fin _ _ _ _ _ he.symm hs9 eb9.old
structure Rq (w : World) (ow : Nat → Nat) (B : Nat) (g : Option Addr) (bs : List UInt8) (st : Nat × Nat) : Prop where
  re : Rf w B g bs st.1 st.2
  t3 : Tg ow 3 (fpW B g)
theorem Rq.fr {T : Nat → Prop} {w w' : World} {ow ow' : Nat → Nat} {B : Nat} {g : Option Addr} {bs : List UInt8} {st : Nat × Nat} (h : Rq w ow B g bs st) (f : Fro T w ow w' ow') (h3 : T 3) : Rq w' ow' B g bs st :=
  ⟨h.re.kp f.kp fun b hb hn => hn (by rw [h.t3 b hb]; exact h3), h.t3.fr f h3 h.re.lt⟩
theorem Rq.U {w : World} {ow : Nat → Nat} {B : Nat} {g : Option Addr} {bs : List UInt8} {st : Nat × Nat} {M : Nat} {R : Po} (h : Rq w ow B g bs st) (hb : bs.length < 140737488355329)
    (hk : ∀ w', Rq w' ow B g bs (rdU bs st M).2 → Fro (fun t => t ≠ 3) w ow w' ow → R (.returned (.int .u64 ((rdU bs st M).1 : Int))) w') : GoC Tryz.prog F_ref02_Reader_U #[.pointer (some ⟨B, 0, none⟩), .int .u64 (M : Int)] w R :=
  ref_U h.re hb fun w' hr k => hk w' ⟨hr, h.t3⟩ (Fro.of_kp' k fun b _ hb' hne => hne (h.t3 b (.inl hb')))
theorem Rq.S {w : World} {ow : Nat → Nat} {B : Nat} {g : Option Addr} {bs : List UInt8} {st : Nat × Nat} {R : Po} (h : Rq w ow B g bs st) (hb : bs.length < 140737488355329)
    (hk : ∀ w', Rq w' ow B g bs (rdU bs st 18446744073709551615).2 → Fro (fun t => t ≠ 3) w ow w' ow → R (.returned (.int .i64 (unzig (rdU bs st 18446744073709551615).1))) w') : GoC Tryz.prog F_ref02_Reader_S #[.pointer (some ⟨B, 0, none⟩)] w R :=
  ref_S h.re hb fun w' hr k => hk w' ⟨hr, h.t3⟩ (Fro.of_kp' k fun b _ hb' hne => hne (h.t3 b (.inl hb')))
theorem Rq.E {w : World} {ow : Nat → Nat} {B : Nat} {g : Option Addr} {bs : List UInt8} {st : Nat × Nat} {R : Po} (h : Rq w ow B g bs st)
    (hk : ∀ w', Rq w' ow B g bs (st.1, endE bs st) → Fro (fun t => t ≠ 3) w ow w' ow → R (.returned (.tuple #[])) w') : GoC Tryz.prog F_ref02_Reader_End #[.pointer (some ⟨B, 0, none⟩)] w R :=
  ref_End h.re fun w' hr k => hk w' ⟨hr, h.t3⟩ (Fro.of_kp' k fun b _ hb' hne => hne (h.t3 b (.inl hb')))
theorem Rq.err {w : World} {ow : Nat → Nat} {B : Nat} {g : Option Addr} {bs : List UInt8} {st : Nat × Nat} (h : Rq w ow B g bs st) : w.cell? (Addr.add ⟨B, 0, none⟩ 2) = some (.int .i64 (st.2 : Int)) := h.re.cerr
theorem bad_c {w : World} {ow : Nat → Nat} {B : Nat} {g : Option Addr} {bs : List UInt8} {st : Nat × Nat} {R : Po} (h : Rq w ow B g bs st) (hk : R (.returned (.bool (decide (st.2 ≠ 0)))) w) : GoC Tryz.prog F_ref05_bad #[.pointer (some ⟨B, 0, none⟩)] w R := by
  refine S_ref05_bad ?_
  unfold W_ref05_bad
  refine NilF.intro rfl ⟨_, h.err, ?_⟩
  have e : (((st.2 : Nat) : Int) != 0) = decide (st.2 ≠ 0) := by by_cases hh : st.2 = 0 <;> simp [hh]
  rw [e]
  exact hk
theorem qnumber_c {w : World} {ow : Nat → Nat} {B : Nat} {g : Option Addr} {bs : List UInt8} {st : Nat × Nat} {R : Po} (h : Rq w ow B g bs st) (hb : bs.length < 140737488355329)
    (hk : ∀ w', Rq w' ow B g bs (rdU bs st 2147483647).2 → Fro (fun t => t ≠ 3) w ow w' ow → R (.returned (.int .i64 ((rdU bs st 2147483647).1 : Int))) w') : GoC Tryz.prog F_ref05_number #[.pointer (some ⟨B, 0, none⟩)] w R := by
  refine S_ref05_number ?_
  unfold W_ref05_number
  refine h.U (M := 2147483647) hb fun w' h' f' => ⟨_, rfl, ?_⟩
  rw [wr31 (by have := rdU_le bs st 2147483647; omega)]
  exact hk w' h' f'
theorem rslot_c {w : World} {ow : Nat → Nat} {B : Nat} {g : Option Addr} {bs : List UInt8} {st : Nat × Nat} {R : Po} (h : Rq w ow B g bs st) (hb : bs.length < 140737488355329)
    (hk : ∀ w', Rq w' (ext ow w.heap.size 9) B g bs (rdU bs (rdU bs st 2147483647).2 2147483647).2 → Fro (fun t => t ≠ 3 ∧ t ≠ 9) w ow w' (ext ow w.heap.size 9) → R (.returned (.agg #[.int .i64 ((rdU bs st 2147483647).1 : Int), .int .i64 ((rdU bs (rdU bs st 2147483647).2 2147483647).1 : Int)])) w') :
    GoC Tryz.prog F_ref05_slot #[.pointer (some ⟨B, 0, none⟩)] w R := by
  refine S_ref05_slot ?_
  unfold W_ref05_slot
  refine AlF.intro fun b1 w1 hb1e hb1 k1 _ => ?_
  have f1 : Fro (fun _ => True) w ow w1 (ext ow w.heap.size 9) := Fro.of_kp0 9 k1
  have t1 : ext ow w.heap.size 9 b1 = 9 := ext_new (by omega)
  refine qnumber_c (h.fr f1 trivial) hb fun w2 h2 f2 => ⟨_, rfl, qnumber_c h2 hb fun w3 h3 f3 => ⟨_, rfl, ?_⟩⟩
  obtain ⟨x2, _⟩ := blk_fr hb1 t1 f2 (by omega)
  obtain ⟨x3, _⟩ := blk_fr x2 t1 f3 (by omega)
  refine StF.at rfl x3 (by simp) fun w4 x4 k4 _ => StF.at rfl x4 (by simp) fun w5 x5 k5 _ => ?_
  have f5 : Fro (fun t => t ≠ 9) w3 (ext ow w.heap.size 9) w5 (ext ow w.heap.size 9) := Fro.of_kp' (k4.trans0 k5) fun b _ hb' hne => hne (by rw [hb']; exact t1)
  refine ⟨_, _, ⟨x5.at rfl rfl, x5.at rfl rfl, trivial⟩, hk w5 (h3.fr f5 (by omega)) ?_⟩
  exact (((f1.mono fun _ _ => trivial).trans (f2.mono fun t ht => ht.1)).trans (f3.mono fun t ht => ht.1)).trans (f5.mono fun t ht => ht.2)
theorem stepN {w0 w : World} {ow : Nat → Nat} {b1 b2 B : Nat} {g : Option Addr} {bs : List UInt8} {st : Nat × Nat} {r : RV} {m : Mm} {ad : Addr} {K : World → Prop} {C : List PanicEntry → World → Prop} (bx : Bx w0 w ow b1 b2 r m) (hR : Rq w ow B g bs st) (hb : bs.length < 140737488355329) (o : Nat) (ho : o ∈ plc) (had : ad = ⟨b2, o, none⟩)
    (hk : ∀ w', Bx w0 w' ow b1 b2 (r.put ((rdU bs st 2147483647).1 : Int) o) m → Rq w' ow B g bs (rdU bs st 2147483647).2 → K w') :
    CallF Tryz.prog F_ref05_number #[.pointer (some ⟨B, 0, none⟩)] w (fun r1 w1 => ∃ n1 : Int, r1 = .int .i64 n1 ∧ StF w1 ad (.int .i64 n1) K) C := by
  refine qnumber_c hR hb fun w1 h1 f1 => ⟨_, rfl, ?_⟩
  exact (bx.fr f1 (by omega) (by omega) (by omega)).st (r.put ((rdU bs st 2147483647).1 : Int) o) m had (plc_lt ho) (put_cell _ _ _ ho) fun w2 bx2 f2 => hk w2 bx2 (h1.fr f2 (by omega))
theorem stepS {w0 w : World} {ow : Nat → Nat} {b1 b2 B : Nat} {g : Option Addr} {bs : List UInt8} {st : Nat × Nat} {r : RV} {m : Mm} {ad : Addr} {K : World → Prop} {C : List PanicEntry → World → Prop} (bx : Bx w0 w ow b1 b2 r m) (hR : Rq w ow B g bs st) (hb : bs.length < 140737488355329) (o : Nat) (ho : o ∈ plc) (had : ad = ⟨b2, o, none⟩)
    (hk : ∀ w', Bx w0 w' ow b1 b2 (r.put (unzig (rdU bs st 18446744073709551615).1) o) m → Rq w' ow B g bs (rdU bs st 18446744073709551615).2 → K w') :
    CallF Tryz.prog F_ref02_Reader_S #[.pointer (some ⟨B, 0, none⟩)] w (fun r1 w1 => ∃ n1 : Int, r1 = .int .i64 n1 ∧ StF w1 ad (.int .i64 n1) K) C := by
  refine hR.S hb fun w1 h1 f1 => ⟨_, rfl, ?_⟩
  exact (bx.fr f1 (by omega) (by omega) (by omega)).st (r.put (unzig (rdU bs st 18446744073709551615).1) o) m had (plc_lt ho) (put_cell _ _ _ ho) fun w2 bx2 f2 => hk w2 bx2 (h1.fr f2 (by omega))
theorem stepT {w0 w : World} {ow : Nat → Nat} {b1 b2 B : Nat} {g : Option Addr} {bs : List UInt8} {st : Nat × Nat} {r : RV} {m : Mm} {ad ad' : Addr} {K : World → Prop} {C : List PanicEntry → World → Prop} (bx : Bx w0 w ow b1 b2 r m) (hR : Rq w ow B g bs st) (hb : bs.length < 140737488355329) (o : Nat) (ho : o ∈ plc) (ho' : o + 1 ∈ plc) (had : ad = ⟨b2, o, none⟩) (had' : ad' = ⟨b2, o + 1, none⟩)
    (hk : ∀ w' ow', Bx w0 w' ow' b1 b2 ((r.put ((rdU bs st 2147483647).1 : Int) o).put ((rdU bs (rdU bs st 2147483647).2 2147483647).1 : Int) (o + 1)) m → Rq w' ow' B g bs (rdU bs (rdU bs st 2147483647).2 2147483647).2 → K w') :
    CallF Tryz.prog F_ref05_slot #[.pointer (some ⟨B, 0, none⟩)] w (fun r1 w1 => ∃ (n1 : Int) (n2 : Int), r1 = .agg #[.int .i64 n1, .int .i64 n2] ∧ StF w1 ad (.int .i64 n1) fun w2 => StF w2 ad' (.int .i64 n2) K) C := by
  refine rslot_c hR hb fun w1 h1 f1 => ⟨_, _, rfl, ?_⟩
  refine (bx.fr f1 (by omega) (by omega) (by omega)).st (r.put ((rdU bs st 2147483647).1 : Int) o) m had (plc_lt ho) (put_cell _ _ _ ho) fun w2 bx2 f2 => ?_
  exact bx2.st ((r.put ((rdU bs st 2147483647).1 : Int) o).put ((rdU bs (rdU bs st 2147483647).2 2147483647).1 : Int) (o + 1)) m had' (plc_lt ho') (put_cell _ _ _ ho') fun w3 bx3 f3 => hk w3 _ bx3 ((h1.fr f2 (by omega)).fr f3 (by omega))
theorem qrdU_fault {bs : List UInt8} {st : Nat × Nat} {m : Nat} (h : st.2 ≠ 0) : rdU bs st m = (0, st) := by unfold rdU; rw [if_neg h]
theorem qrdL1_fault {bs : List UInt8} {st : Nat × Nat} (h : st.2 ≠ 0) : (rdL1 bs st).2 = st := by unfold rdL1; simp only [qrdU_fault h]
theorem qrdD1_fault {bs : List UInt8} {st : Nat × Nat} (h : st.2 ≠ 0) : (rdD1 bs st).2 = st := by unfold rdD1; simp only [qrdU_fault h]
theorem qrdLive_fault {bs : List UInt8} : ∀ (n : Nat) {L : List LV} {st : Nat × Nat}, st.2 ≠ 0 → (rdLive bs n (L, st)).2 = st
  | 0, _, _, _ => rfl
  | n + 1, L, st, h => by
    rw [rdLive]
    dsimp only
    rw [qrdL1_fault h]
    exact qrdLive_fault n h
theorem qrdDirty_fault {bs : List UInt8} : ∀ (n : Nat) {D : List DV} {st : Nat × Nat}, st.2 ≠ 0 → (rdDirty bs n (D, st)).2 = st
  | 0, _, _, _ => rfl
  | n + 1, D, st, h => by
    rw [rdDirty]
    dsimp only
    rw [qrdD1_fault h]
    exact qrdDirty_fault n h
def ptc (m : Mm) (next : Int) : Array Value := #[.slice m.la m.ll m.lc, .slice m.da m.dl m.dc, .int .i64 next]
structure Px (w : World) (ow : Nat → Nat) (b1 b2 : Nat) (m : Mm) (next : Int) : Prop where
  x1 : Blk w b1 (ptc {} 0) T_api_Points
  t1 : ow b1 = 6
  x2 : Blk w b2 (ptc m next) T_api_Points
  t2 : ow b2 = 7
theorem Px.fr {T : Nat → Prop} {w w' : World} {ow ow' : Nat → Nat} {b1 b2 : Nat} {m : Mm} {next : Int} (h : Px w ow b1 b2 m next) (f : Fro T w ow w' ow') (h6 : T 6) (h7 : T 7) : Px w' ow' b1 b2 m next := by
  obtain ⟨a, b⟩ := blk_fr h.x1 h.t1 f h6
  obtain ⟨c, d⟩ := blk_fr h.x2 h.t2 f h7
  exact ⟨a, b, c, d⟩
theorem Px.st {w : World} {ow : Nat → Nat} {b1 b2 o : Nat} {m : Mm} {next : Int} {ad : Addr} {v : Value} {K : World → Prop} (h : Px w ow b1 b2 m next) (m3 : Mm) (n3 : Int) (had : ad = ⟨b2, o, none⟩) (ho : o < 3)
    (he : (ptc m next).setIfInBounds o v = ptc m3 n3) (hk : ∀ w', Px w' ow b1 b2 m3 n3 → Fro (fun t => t ≠ 7) w ow w' ow → K w') : StF w ad v K :=
  StF.at had h.x2 ho fun w' hb' k' _ => by
    have f : Fro (fun t => t ≠ 7) w ow w' ow := Fro.of_kp' k' fun b _ hb hne => hne (by rw [hb]; exact h.t2)
    obtain ⟨a, b⟩ := blk_fr h.x1 h.t1 f (by omega)
    exact hk w' ⟨a, b, he ▸ hb', h.t2⟩ f
theorem pushPL {w : World} {ow : Nat → Nat} {b1 b2 : Nat} {m : Mm} {next : Int} {L : List LV} (hx : Px w ow b1 b2 m next) (hl : SlT w ow T_api_Live 4 m.la m.ll m.lc (flatV LV.cs L) 4) (x : LV) (hlen : m.ll ≤ 1000) {K : World → Prop}
    (h : ∀ m' w' ow', Px w' ow' b1 b2 m' next → SlT w' ow' T_api_Live 4 m'.la m'.ll m'.lc (flatV LV.cs (L ++ [x])) 4 → Fro (fun t => t ≠ 4 ∧ t ≠ 7) w ow w' ow' → m'.ll = m.ll + 1 → m'.da = m.da ∧ m'.dl = m.dl ∧ m'.dc = m.dc → K w') :
    AlF w (.cells #[.int .i64 x.tx, .int .i64 x.last, .bool x.c, .bool x.u] T_api_Live) fun b4 w94 => RunF Tryz.prog (Builtin.append_ #[T_s_api_Live, T_s_api_Live] T_s_api_Live #[.slice m.la m.ll m.lc, .slice (some ⟨b4, 0, none⟩) 1 1]) w94 fun r11 w95 =>
      ∃ (a11 : Option Addr) (l11 c11 : Nat), r11 = .slice a11 l11 c11 ∧ StF w95 ⟨b2, 0, none⟩ (.slice a11 l11 c11) K := by
  refine AlF.intro fun b4 wa hb4e hb4 ka _ => ?_
  have fa : Fro (fun _ => True) w ow wa (ext ow w.heap.size 8) := Fro.of_kp0 8 ka
  refine app_c er_lv (hl.fr fa trivial) (rd_cells hb4 (xs := x.cs) rfl) (by rw [LV.csl]) (fun hh => by cases hh) x.cs1 (by omega) (by omega) fun a' c' wb hs' kb fb => ⟨a', _, c', rfl, ?_⟩
  refine ((hx.fr fa trivial trivial).fr fb (by omega) (by omega)).st { m with la := a', ll := m.ll + 1, lc := c' } next rfl (by omega) rfl fun wc hxc fc => ?_
  refine h _ wc _ hxc ?_ (((fa.mono fun _ _ => trivial).trans (fb.mono fun t ht => ht.1)).trans (fc.mono fun t ht => ht.2)) rfl ⟨rfl, rfl, rfl⟩
  have := hs'.fr fc (by omega)
  show SlT wc _ T_api_Live 4 a' (m.ll + 1) c' (flatV LV.cs (L ++ [x])) 4
  rw [flatV_app]
  exact this
theorem pushPD {w : World} {ow : Nat → Nat} {b1 b2 : Nat} {m : Mm} {next : Int} {D : List DV} (hx : Px w ow b1 b2 m next) (hl : SlT w ow T_api_Dirty 2 m.da m.dl m.dc (flatV DV.cs D) 5) (x : DV) (hlen : m.dl ≤ 1000) {K : World → Prop}
    (h : ∀ m' w' ow', Px w' ow' b1 b2 m' next → SlT w' ow' T_api_Dirty 2 m'.da m'.dl m'.dc (flatV DV.cs (D ++ [x])) 5 → Fro (fun t => t ≠ 5 ∧ t ≠ 7) w ow w' ow' → m'.dl = m.dl + 1 → m'.la = m.la ∧ m'.ll = m.ll ∧ m'.lc = m.lc → K w') :
    AlF w (.cells #[.int .i64 x.page, .int .i64 x.since] T_api_Dirty) fun b4 w94 => RunF Tryz.prog (Builtin.append_ #[T_s_api_Dirty, T_s_api_Dirty] T_s_api_Dirty #[.slice m.da m.dl m.dc, .slice (some ⟨b4, 0, none⟩) 1 1]) w94 fun r11 w95 =>
      ∃ (a11 : Option Addr) (l11 c11 : Nat), r11 = .slice a11 l11 c11 ∧ StF w95 (Addr.add ⟨b2, 0, none⟩ 1) (.slice a11 l11 c11) K := by
  refine AlF.intro fun b4 wa hb4e hb4 ka _ => ?_
  have fa : Fro (fun _ => True) w ow wa (ext ow w.heap.size 8) := Fro.of_kp0 8 ka
  refine app_c er_dv (hl.fr fa trivial) (rd_cells hb4 (xs := x.cs) rfl) (by rw [DV.csl]) (fun hh => by cases hh) x.cs1 (by omega) (by omega) fun a' c' wb hs' kb fb => ⟨a', _, c', rfl, ?_⟩
  refine ((hx.fr fa trivial trivial).fr fb (by omega) (by omega)).st { m with da := a', dl := m.dl + 1, dc := c' } next rfl (Nat.le_of_ble_eq_true rfl) rfl fun wc hxc fc => ?_
  refine h _ wc _ hxc ?_ (((fa.mono fun _ _ => trivial).trans (fb.mono fun t ht => ht.1)).trans (fc.mono fun t ht => ht.2)) rfl ⟨rfl, rfl, rfl⟩
  have := hs'.fr fc (by omega)
  show SlT wc _ T_api_Dirty 2 a' (m.dl + 1) c' (flatV DV.cs (D ++ [x])) 5
  rw [flatV_app]
  exact this
set_option maxHeartbeats 1000000 in
theorem rcheckpoint_c {w : World} {ow : Nat → Nat} {B : Nat} {g : Option Addr} {bs : List UInt8} {st : Nat × Nat} {R : Po} (hR : Rq w ow B g bs st) (hb : bs.length < 140737488355329)
    (hk : ∀ (x : RV × (Nat × Nat)), x = rdCp bs ({ kind := 8, next := ((rdU bs st 2147483648).1 : Int) }, (rdU bs st 2147483648).2) → ∀ (m : Mm) (L : List LV) (D : List DV) w' ow', Rq w' ow' B g bs x.2 → (x.2.2 = 0 → x.1 = { kind := 8, next := ((rdU bs st 2147483648).1 : Int), live := L, dirty := D }) →
      SlT w' ow' T_api_Live 4 m.la m.ll m.lc (flatV LV.cs L) 4 → SlT w' ow' T_api_Dirty 2 m.da m.dl m.dc (flatV DV.cs D) 5 → L.length = m.ll → D.length = m.dl → m.ll ≤ 1000 → m.dl ≤ 1000 → Fro (fun t => t ≤ 2) w ow w' ow' →
      R (.returned (.agg #[.slice m.la m.ll m.lc, .slice m.da m.dl m.dc, .int .i64 ((rdU bs st 2147483648).1 : Int)])) w') : GoC Tryz.prog F_ref05_checkpoint #[.pointer (some ⟨B, 0, none⟩)] w R := by
  refine S_ref05_checkpoint ?_
  unfold W_ref05_checkpoint
  refine AlF.intro fun b1 w1 hb1e hb1 k1 _ => AlF.intro fun b2 w2 hb2e hb2 k2 _ => ?_
  have f1 : Fro (fun _ => True) w ow w1 (ext ow w.heap.size 6) := Fro.of_kp0 6 k1
  have f2 : Fro (fun _ => True) w1 (ext ow w.heap.size 6) w2 (ext (ext ow w.heap.size 6) w1.heap.size 7) := Fro.of_kp0 7 k2
  have px2 : Px w2 (ext (ext ow w.heap.size 6) w1.heap.size 7) b1 b2 {} 0 := by
    have t6 : ext ow w.heap.size 6 b1 = 6 := ext_new (by omega)
    obtain ⟨a, b⟩ := blk_fr hb1 t6 f2 trivial
    exact ⟨a, b, hb2, ext_new (by omega)⟩
  have hR2 := (hR.fr f1 trivial).fr f2 trivial
  have F2 := (f1.mono fun t (_ : t ≤ 2) => trivial).trans (f2.mono fun t (_ : t ≤ 2) => trivial)
  generalize ext (ext ow w.heap.size 6) w1.heap.size 7 = ow2 at *
  refine hR2.U (M := 2147483648) hb fun w3 hR3 f3 => ⟨_, rfl, ?_⟩
  have hk := hk _ rfl
  have hle := rdU_le bs st 2147483648
  generalize rdU bs st 2147483648 = a at *
  rw [wr31 hle]
  refine (px2.fr f3 (by omega) (by omega)).st {} (a.1 : Int) rfl (Nat.le_of_ble_eq_true rfl) rfl fun w4 px4 f4 => ?_
  refine (hR3.fr f4 (by omega)).U (M := 32) hb fun w5 hR5 f5 => ⟨_, rfl, ?_⟩
  have px5 := px4.fr f5 (by omega) (by omega)
  have F5 := ((F2.trans (f3.mono fun t ht => by omega)).trans (f4.mono fun t ht => by omega)).trans (f5.mono fun t (ht : t ≤ 2) => by omega)
  have h32 := rdU_le bs a.2 32
  unfold rdCp at hk
  dsimp only at hk
  generalize rdU bs a.2 32 = nn at *
  rw [wr31 (by omega)]
  clear F2 hR3 f3 f4 f5 px4 px2 hR2 hb1 hb2
  refine ⟨fun _ w' => ∃ (L : List LV) (m : Mm) (st : Nat × Nat) (ow' : Nat → Nat), Px w' ow' b1 b2 m (a.1 : Int) ∧ Rq w' ow' B g bs st ∧ SlT w' ow' T_api_Live 4 m.la m.ll m.lc (flatV LV.cs L) 4 ∧ (m.da = none ∧ m.dl = 0 ∧ m.dc = 0) ∧ L.length = m.ll ∧ m.ll ≤ 1000 ∧ Fro (fun t => t ≤ 2) w ow w' ow' ∧
      (rdLive bs nn.1 ([], nn.2)).2 = st ∧ (st.2 = 0 → (rdLive bs nn.1 ([], nn.2)).1 = L), ?_, ?_⟩
  · refine loopN (fun s w' => ∃ k : Nat, k ≤ nn.1 ∧ s.1 = (k : Int) ∧ ∃ (L : List LV) (m : Mm) (st : Nat × Nat) (ow' : Nat → Nat), Px w' ow' b1 b2 m (a.1 : Int) ∧ Rq w' ow' B g bs st ∧ SlT w' ow' T_api_Live 4 m.la m.ll m.lc (flatV LV.cs L) 4 ∧ (m.da = none ∧ m.dl = 0 ∧ m.dc = 0) ∧ L.length = m.ll ∧ m.ll = k ∧ Fro (fun t => t ≤ 2) w ow w' ow' ∧
        rdLive bs (nn.1 - k) (L, st) = rdLive bs nn.1 ([], nn.2)) (fun s _ => nn.1 - s.1.toNat) ⟨0, Nat.zero_le _, rfl, [], {}, nn.2, ow2, px5, hR5, slt_nil _ _ _ _ _, ⟨rfl, rfl, rfl⟩, rfl, rfl, F5, rfl⟩ ?_
    rintro ⟨k0, u⟩ wa ⟨k, hkn, hk0, L, m, st', owa, px, hR, hlv, hmd, hll, hmk, F, hrl⟩ _
    dsimp only at hk0 ⊢
    subst hk0
    refine cond_d (fun hlt => ?_) (fun hge => ?_)
    · have hkl : k < nn.1 := by omega
      refine bad_c hR ⟨_, rfl, cond_not (cond_d (fun hbad => ?_) (fun hgood => ?_))⟩
      · refine ⟨L, m, st', owa, px, hR, hlv, hmd, hll, by omega, F, ?_, fun h0 => absurd h0 hbad⟩
        rw [← hrl, qrdLive_fault _ hbad]
      refine qnumber_c hR hb fun w1 hR1 f1 => ⟨_, rfl, qnumber_c hR1 hb fun w2 hR2 f2 => ⟨_, rfl, ?_⟩⟩
      refine lv_cp ⟨((rdU bs st' 2147483647).1 : Int), ((rdU bs (rdU bs st' 2147483647).2 2147483647).1 : Int), false, false⟩ fun b3 w3 h3 => ?_
      have px2 := (px.fr f1 (by omega) (by omega)).fr f2 (by omega) (by omega)
      have hl2 := (hlv.fr f1 (by omega)).fr f2 (by omega)
      have F2 := (F.trans (f1.mono fun t ht => by omega)).trans (f2.mono fun t (ht : t ≤ 2) => by omega)
      have f3 : Fro (fun _ => True) w2 owa w3 (ext owa w2.heap.size 9) := Fro.of_kp0 9 h3.kp
      have t9 : ext owa w2.heap.size 9 b3 = 9 := ext_new h3.nw
      have px3 := px2.fr f3 trivial trivial
      have hl3 := hl2.fr f3 trivial
      have hR3 := hR2.fr f3 trivial
      have F3 := F2.trans (f3.mono fun t (_ : t ≤ 2) => trivial)
      generalize ext owa w2.heap.size 9 = owb at *
      refine hR3.U (M := 2) hb fun w4 hR4 f4 => ⟨_, rfl, ?_⟩
      obtain ⟨x4, _⟩ := blk_fr h3.blk t9 f4 (by omega)
      refine StF.at rfl x4 (by simp [LV.cs]) fun w5 x5 k5 _ => StF.at rfl x5 (by simp [LV.cs]) fun w6 x6 k6 _ => ?_
      have f6 : Fro (fun t => t ≠ 9) w4 owb w6 owb := Fro.of_kp' (k5.trans0 k6) fun b _ hb' hne => hne (by rw [hb']; exact t9)
      have px6 := (px3.fr f4 (by omega) (by omega)).fr f6 (by omega) (by omega)
      have hl6 := (hl3.fr f4 (by omega)).fr f6 (by omega)
      have hR6 := hR4.fr f6 (by omega)
      have F6 := (F3.trans (f4.mono fun t ht => by omega)).trans (f6.mono fun t (ht : t ≤ 2) => by omega)
      refine ⟨_, _, _, px6.x2.at rfl rfl, _, _, _, _, ⟨x6.at rfl rfl, x6.at rfl rfl, x6.at rfl rfl, x6.at rfl rfl, trivial⟩, ?_⟩
      refine pushPL px6 hl6 (rdL1 bs st').1 (by omega) fun m' w7 ow7 px7 hl7 f7 hm' hmd' => ?_
      rw [wk1 hkl (by omega)]
      refine ⟨⟨k + 1, by omega, rfl, _, m', (rdL1 bs st').2, ow7, px7, hR6.fr f7 (by omega), hl7, by rw [hmd'.1, hmd'.2.1, hmd'.2.2]; exact hmd, by simp; omega, by omega, F6.trans (f7.mono fun t ht => by omega), ?_⟩, by simp only [Int.toNat_natCast]; omega⟩
      rw [← hrl, show nn.1 - k = (nn.1 - (k + 1)) + 1 by omega, rdLive]
    · have hke : k = nn.1 := by omega
      rw [hke, Nat.sub_self, rdLive] at hrl
      exact ⟨L, m, st', owa, px, hR, hlv, hmd, hll, by omega, F, by rw [← hrl], fun _ => by rw [← hrl]⟩
  rintro _ wa ⟨L, m, st', owa, px, hR, hlv, hmd, hll, hm1, F, hl2, hl1⟩ _
  generalize hll' : rdLive bs nn.1 ([], nn.2) = ll at *
  subst hl2
  refine hR.U (M := 16) hb fun wb hRb fb => ⟨_, rfl, ?_⟩
  have pxb := px.fr fb (by omega) (by omega)
  have hlvb := hlv.fr fb (by omega)
  have Fb := F.trans (fb.mono fun t (ht : t ≤ 2) => by omega)
  have h16 := rdU_le bs ll.2 16
  have hflt : (rdDirty bs (rdU bs ll.2 16).1 ([], (rdU bs ll.2 16).2)).2.2 = 0 → ll.2.2 = 0 := fun h => by
    refine Decidable.by_contra fun hne => ?_
    rw [qrdU_fault hne, qrdDirty_fault _ hne] at h
    exact hne h
  generalize rdU bs ll.2 16 = dd at *
  rw [wr31 (by omega)]
  refine ⟨fun _ w' => ∃ (D : List DV) (m : Mm) (st : Nat × Nat) (ow' : Nat → Nat), Px w' ow' b1 b2 m (a.1 : Int) ∧ Rq w' ow' B g bs st ∧ SlT w' ow' T_api_Live 4 m.la m.ll m.lc (flatV LV.cs L) 4 ∧ SlT w' ow' T_api_Dirty 2 m.da m.dl m.dc (flatV DV.cs D) 5 ∧ L.length = m.ll ∧ m.ll ≤ 1000 ∧ D.length = m.dl ∧ m.dl ≤ 1000 ∧ Fro (fun t => t ≤ 2) w ow w' ow' ∧
      (rdDirty bs dd.1 ([], dd.2)).2 = st ∧ (st.2 = 0 → (rdDirty bs dd.1 ([], dd.2)).1 = D), ?_, ?_⟩
  · refine loopN (fun s w' => ∃ k : Nat, k ≤ dd.1 ∧ s.1 = (k : Int) ∧ ∃ (D : List DV) (m : Mm) (st : Nat × Nat) (ow' : Nat → Nat), Px w' ow' b1 b2 m (a.1 : Int) ∧ Rq w' ow' B g bs st ∧ SlT w' ow' T_api_Live 4 m.la m.ll m.lc (flatV LV.cs L) 4 ∧ SlT w' ow' T_api_Dirty 2 m.da m.dl m.dc (flatV DV.cs D) 5 ∧ L.length = m.ll ∧ m.ll ≤ 1000 ∧ D.length = m.dl ∧ m.dl = k ∧ Fro (fun t => t ≤ 2) w ow w' ow' ∧
        rdDirty bs (dd.1 - k) (D, st) = rdDirty bs dd.1 ([], dd.2)) (fun s _ => dd.1 - s.1.toNat) ⟨0, Nat.zero_le _, rfl, [], m, dd.2, owa, pxb, hRb, hlvb, by rw [hmd.1, hmd.2.1, hmd.2.2]; exact slt_nil _ _ _ _ _, hll, hm1, by rw [hmd.2.1]; rfl, hmd.2.1, Fb, rfl⟩ ?_
    rintro ⟨k0, u⟩ wa ⟨k, hkn, hk0, D, m, st', owa, px, hR, hlv, hdv, hll, hm1, hdl, hmk, F, hrl⟩ _
    dsimp only at hk0 ⊢
    subst hk0
    refine cond_d (fun hlt => ?_) (fun hge => ?_)
    · have hkl : k < dd.1 := by omega
      refine bad_c hR ⟨_, rfl, cond_not (cond_d (fun hbad => ?_) (fun hgood => ?_))⟩
      · refine ⟨D, m, st', owa, px, hR, hlv, hdv, hll, hm1, hdl, by omega, F, ?_, fun h0 => absurd h0 hbad⟩
        rw [← hrl, qrdDirty_fault _ hbad]
      refine qnumber_c hR hb fun w1 hR1 f1 => ⟨_, rfl, qnumber_c hR1 hb fun w2 hR2 f2 => ⟨_, rfl, ?_⟩⟩
      refine dv_cp (rdD1 bs st').1 fun b3 w3 h3 => ?_
      have px2 := (px.fr f1 (by omega) (by omega)).fr f2 (by omega) (by omega)
      have hl2 := (hlv.fr f1 (by omega)).fr f2 (by omega)
      have hd2 := (hdv.fr f1 (by omega)).fr f2 (by omega)
      have F2 := (F.trans (f1.mono fun t ht => by omega)).trans (f2.mono fun t (ht : t ≤ 2) => by omega)
      have f3 : Fro (fun _ => True) w2 owa w3 (ext owa w2.heap.size 9) := Fro.of_kp0 9 h3.kp
      have px3 := px2.fr f3 trivial trivial
      have hl3 := hl2.fr f3 trivial
      have hd3 := hd2.fr f3 trivial
      have hR3 := hR2.fr f3 trivial
      have F3 := F2.trans (f3.mono fun t (_ : t ≤ 2) => trivial)
      generalize ext owa w2.heap.size 9 = owb at *
      refine ⟨_, _, _, px3.x2.at rfl rfl, _, _, ⟨h3.at rfl rfl, h3.at rfl rfl, trivial⟩, ?_⟩
      refine pushPD px3 hd3 (rdD1 bs st').1 (by omega) fun m' w7 ow7 px7 hd7 f7 hm' hml' => ?_
      rw [wk1 hkl (by omega)]
      refine ⟨⟨k + 1, by omega, rfl, _, m', (rdD1 bs st').2, ow7, px7, hR3.fr f7 (by omega), by rw [hml'.1, hml'.2.1, hml'.2.2]; exact hl3.fr f7 (by omega), hd7, by omega, by omega, by simp; omega, by omega, F3.trans (f7.mono fun t ht => by omega), ?_⟩, by simp only [Int.toNat_natCast]; omega⟩
      rw [← hrl, show dd.1 - k = (dd.1 - (k + 1)) + 1 by omega, rdDirty]
    · have hke : k = dd.1 := by omega
      rw [hke, Nat.sub_self, rdDirty] at hrl
      exact ⟨D, m, st', owa, px, hR, hlv, hdv, hll, hm1, hdl, by omega, F, by rw [← hrl], fun _ => by rw [← hrl]⟩
  rintro _ wc ⟨D, m, st', owc, px, hR, hlv, hdv, hll, hm1, hdl, hm2, F, hd2, hd1⟩ _
  refine ⟨_, _, _, _, _, _, _, ⟨px.x2.at rfl rfl, px.x2.at rfl rfl, px.x2.at rfl rfl, trivial⟩, ?_⟩
  refine StF.at rfl px.x1 (by simp [ptc]) fun wd xd kd _ => StF.at rfl xd (by simp [ptc]) fun we xe ke _ => StF.at rfl xe (by simp [ptc]) fun wf xf kf _ => ?_
  have ff : Fro (fun t => t ≠ 6) wc owc wf owc := Fro.of_kp' ((kd.trans0 ke).trans0 kf) fun b _ hb' hne => hne (by rw [hb']; exact px.t1)
  refine ⟨_, _, _, _, _, _, _, ⟨xf.at rfl rfl, xf.at rfl rfl, xf.at rfl rfl, trivial⟩, ?_⟩
  refine hk m L D wf owc (by rw [hd2]; exact hR.fr ff (by omega)) (fun h0 => ?_) (hlv.fr ff (by omega)) (hdv.fr ff (by omega)) hll hdl hm1 hm2 (F.trans (ff.mono fun t ht => by omega))
  have e1 := hl1 (hflt h0)
  rw [hd2] at h0
  rw [e1, hd1 h0]
theorem ls_nil (w : World) (ow : Nat → Nat) {r : RV} (hl : r.live = []) (hd : r.dirty = []) : LsR w ow r {} := ⟨by rw [hl]; exact slt_nil _ _ _ _ _, by rw [hd]; exact slt_nil _ _ _ _ _, by rw [hl]; rfl, by rw [hd]; rfl⟩
set_option maxHeartbeats 1000000 in
theorem rdecode_c {w : World} {a : Option Addr} {l c : Nat} {bs : List UInt8} {R : Po} (hr : Rd w a (bvs bs)) (hl : bs.length = l) (h0 : a = none → l = 0) (hb : l < 140737488355329)
    (h : ∀ m w' ow, Kp no w w' → Old w w' ow → LsR w' ow (decB bs).1 m → R (.returned (.tuple #[.agg ((decB bs).1.ca m), .int .i64 ((decB bs).2 : Int)])) w') : GoC Tryz.prog F_ref05_Decode #[.slice a l c] w R := by
  subst hl
  refine S_ref05_Decode ?_
  unfold W_ref05_Decode
  refine AlF.intro fun b1 w1 hb1e hb1 k1 hs1 => ?_
  refine refNewReader_c (hr.kp0 k1) rfl h0 (by omega) fun B g w2 hre k2 hB hg => ⟨_, rfl, ?_⟩
  have o0 : Old w w fun _ => 0 := ⟨Kp.refl _ _, fun _ _ => rfl⟩
  have f1 : Fro (fun _ => True) w (fun _ => 0) w1 (ext (fun _ => 0) w.heap.size 1) := Fro.of_kp0 1 k1
  have f2 : Fro (fun _ => True) w1 (ext (fun _ => 0) w.heap.size 1) w2 (ext (ext (fun _ => 0) w.heap.size 1) w1.heap.size 3) := Fro.of_kp0 3 k2
  generalize how : ext (ext (fun _ => 0) w.heap.size 1) w1.heap.size 3 = ow2 at f2
  have t1 : ow2 b1 = 1 := by rw [← how, ext_old (by omega), ext_new (by omega)]
  have old2 : Old w w2 ow2 := (o0.fr f1 trivial).fr f2 trivial
  have x1 : Blk w2 b1 (({} : RV).ca {}) T_api_Record := k2.blk hb1 id
  have hR2 : Rq w2 ow2 B g bs (0, 0) := ⟨hre, fun k hk => by
    rw [← how]
    rcases hk with rfl | hk
    · exact ext_new hB
    · exact ext_new (hg k hk)⟩
  have hfin : ∀ (r : RV) (e : Nat), decB bs = (r, e) → ∀ m w' ow, Kp no w w' → Old w w' ow → LsR w' ow r m → R (.returned (.tuple #[.agg (r.ca m), .int .i64 (e : Int)])) w' := fun r e he m w' ow hk ho hL => by
    have := h m w' ow hk ho (by rw [he]; exact hL)
    rw [he] at this
    exact this
  have e0 : ∀ w' ow, LsR w' ow {} {} := fun w' ow => ls_nil w' ow rfl rfl
  refine hR2.U (M := 18446744073709551615) hb fun w4 hR4 f4 => ⟨_, rfl, ?_⟩
  have hR4 : Rq w4 ow2 B g bs (rdU bs (0, 0) 18446744073709551615).2 := hR4
  obtain ⟨hx4, _⟩ := blk_fr x1 t1 f4 (by omega)
  have old4 := old2.fr f4 (by omega)
  have zero : ∀ (e : Nat), decB bs = ({}, e) → ∀ w'', Blk w'' b1 (({} : RV).ca {}) T_api_Record → Kp (fun k => k = b1) w4 w'' → R (.returned (.tuple #[.agg (({} : RV).ca {}), .int .i64 (e : Int)])) w'' := fun e he w'' hb kk => by
    have f : Fro (fun t => t ≠ 1) w4 ow2 w'' ow2 := Fro.of_kp' kk fun b _ hb' hne => hne (by rw [hb']; exact t1)
    have := old4.fr f (by omega)
    exact hfin _ _ he {} w'' ow2 this.kp this (e0 _ _)
  generalize ha : rdU bs (0, 0) 18446744073709551615 = a3 at *
  have nb1 : b1 ≠ B := fun hh => by
    have := hR4.t3 B (.inl rfl)
    rw [← hh, t1] at this
    omega
  refine bad_c hR4 ⟨_, rfl, cond_d (fun hf => ?_) (fun hf => ?_)⟩
  · refine ⟨fun w' => w'.cell? (Addr.add ⟨B, 0, none⟩ 2) = some (.int .i64 (a3.2.2 : Int)), hR4.err, NilF.intro rfl ⟨_, fun w' hw' => hw', ?_⟩⟩
    have xd : Blk w4.drew b1 (({} : RV).ca {}) T_api_Record := hx4
    refine rec_st xd {} {} fun w5 hb5 k5 => ⟨?_, rec_rd hb5 (zero a3.2.2 ?_ w5 hb5 ((Kp.drew w4 1).of_no.trans0 k5))⟩
    · exact k5.cell (by exact hR4.err) (fun hh => nb1 hh.symm)
    unfold decB
    simp only [ha]
    rw [if_pos (by omega)]
  have hd70 : (a3.1 < 1 ∨ 8 < a3.1) → decB bs = ({}, 70) := fun hh => by
    unfold decB
    simp only [ha]
    rw [if_neg (by omega), if_pos hh]
  refine cond_d (fun hlt => ?_) (fun hge => cond_d (fun hgt => ?_) (fun hle => ?_))
  · exact rec_st hx4 {} {} fun w5 hb5 k5 => rec_rd hb5 (zero 70 (hd70 (by omega)) w5 hb5 k5)
  · exact rec_st hx4 {} {} fun w5 hb5 k5 => rec_rd hb5 (zero 70 (hd70 (by omega)) w5 hb5 k5)
  have hdec : decB bs = (let x := rdRec bs (a3.1 : Int) a3.2; if endE bs x.2 ≠ 0 then ({}, endE bs x.2) else if chkN x.1 ≠ 0 then ({}, chkN x.1) else (x.1, 0)) := by
    unfold decB
    simp only [ha]
    rw [if_neg (by omega), if_neg (by omega)]
  have hk31 : IntKind.wrap .i64 (a3.1 : Int) = (a3.1 : Int) := wr31 (by omega)
  rw [hk31]
  refine rec_cp { kind := (a3.1 : Int) } {} fun b2 w5 h5 => ?_
  have f5 : Fro (fun _ => True) w4 ow2 w5 (ext ow2 w4.heap.size 2) := Fro.of_kp0 2 h5.kp
  have hR5 := hR4.fr f5 trivial
  have bx5 : Bx w w5 (ext ow2 w4.heap.size 2) b1 b2 { kind := (a3.1 : Int) } {} := by
    obtain ⟨a, b⟩ := blk_fr hx4 t1 f5 trivial
    exact ⟨old4.fr f5 trivial, a, b, h5.blk, ext_new h5.nw⟩
  generalize ext ow2 w4.heap.size 2 = ow5 at f5 hR5 bx5
  have hk1 : (1 : Int) ≤ (a3.1 : Int) := by omega
  have hk8 : (a3.1 : Int) ≤ 8 := by omega
  generalize hK : (a3.1 : Int) = kd at *
  refine ⟨fun _ w' => ∃ r m st ow, Bx w w' ow b1 b2 r m ∧ Rq w' ow B g bs st ∧ LsR w' ow r m ∧ m.ll ≤ 1000 ∧ m.dl ≤ 1000 ∧ (rdRec bs kd a3.2).2 = st ∧ (st.2 = 0 → (rdRec bs kd a3.2).1 = r), ?_, ?_⟩
  · -- where nothing but numbers is read
    have done : ∀ (r : RV) (st : Nat × Nat) (w' : World) (ow : Nat → Nat), kd ≠ 8 → rdSgn bs (sof kd) (rdInts bs (mst kd) (iof kd) ({ kind := kd }, a3.2)) = (r, st) → r.kind = kd → r.live = [] → r.dirty = [] → Bx w w' ow b1 b2 r {} → Rq w' ow B g bs st →
        ∃ r m st ow, Bx w w' ow b1 b2 r m ∧ Rq w' ow B g bs st ∧ LsR w' ow r m ∧ m.ll ≤ 1000 ∧ m.dl ≤ 1000 ∧ (rdRec bs kd a3.2).2 = st ∧ (st.2 = 0 → (rdRec bs kd a3.2).1 = r) := fun r st w' ow n8 he hrk hl hd bx hR => by
      have : rdRec bs kd a3.2 = (r, st) := by
        unfold rdRec rdTail
        rw [he, if_neg (by dsimp only; omega)]
      exact ⟨r, {}, st, ow, bx, hR, ls_nil w' ow hl hd, by simp, by simp, by rw [this], fun _ => by rw [this]⟩
    have hM : kd ≠ 8 → mst kd = 2147483647 := fun n8 => by unfold mst; rw [if_neg n8]
    refine ⟨kd, bx5.x2.at rfl rfl, cond_eq (fun e1 => ?_) fun n1 => cond_eq (fun e2 => ?_) fun n2 => ?_⟩
    · have hI : iof kd = [2] := by unfold iof; rw [if_neg (by omega), if_neg (by omega), if_neg (by omega), if_neg (by omega)]
      have hS : sof kd = [] := by unfold sof; rw [if_neg (by omega), if_neg (by omega)]
      refine stepN bx5 hR5 hb 2 (by decide) rfl fun w6 bx6 hR6 => ?_
      exact done _ _ w6 _ (by omega) (by rw [hI, hS, hM (by omega)]; rfl) rfl rfl rfl bx6 hR6
    · have hI : iof kd = [4, 5, 6, 7, 9, 10] := by unfold iof; rw [if_pos e2]
      have hS : sof kd = [11, 12, 13] := by unfold sof; rw [if_pos e2]
      refine stepT bx5 hR5 hb 4 (by decide) (by decide) rfl rfl fun w6 ow6 bx6 hR6 => ?_
      refine stepT bx6 hR6 hb 6 (by decide) (by decide) rfl rfl fun w7 ow7 bx7 hR7 => ?_
      refine stepN bx7 hR7 hb 9 (by decide) rfl fun w8 bx8 hR8 => stepN bx8 hR8 hb 10 (by decide) rfl fun w9 bx9 hR9 => ?_
      refine stepS bx9 hR9 hb 11 (by decide) rfl fun wa bxa hRa => stepS bxa hRa hb 12 (by decide) rfl fun wb bxb hRb => stepS bxb hRb hb 13 (by decide) rfl fun wc bxc hRc => ?_
      exact done _ _ wc _ (by omega) (by rw [hI, hS, hM (by omega)]; rfl) rfl rfl rfl bxc hRc
    · refine ⟨fun s w' => w' = w5 ∧ s.1 = decide (kd = 3 ∨ kd = 4), ?_, ?_⟩
      · refine cond_eq (fun e3 => ⟨rfl, ?_⟩) (fun n3 => ⟨rfl, ?_⟩)
        · rw [decide_eq_true (.inl e3)]
          exact decide_eq_true e3
        · by_cases e4 : kd = 4
          · rw [decide_eq_true (.inr e4)]
            exact decide_eq_true e4
          · rw [decide_eq_false (by omega)]
            exact decide_eq_false e4
      rintro ⟨q, u⟩ w6 ⟨hw6, hq⟩ _
      dsimp only at hq
      subst hq
      rw [hw6]
      refine cond_d (fun e34 => ?_) (fun n34 => ?_)
      · have hI : iof kd = [2, 3, 4, 5, 6, 7, 9] := by unfold iof; rw [if_neg (by omega), if_neg (by omega), if_pos e34]
        have hS : sof kd = [8] := by unfold sof; rw [if_neg (by omega), if_pos e34]
        refine stepN bx5 hR5 hb 2 (by decide) rfl fun w6 bx6 hR6 => stepN bx6 hR6 hb 3 (by decide) rfl fun w7 bx7 hR7 => ?_
        refine stepT bx7 hR7 hb 4 (by decide) (by decide) rfl rfl fun w8 ow8 bx8 hR8 => ?_
        refine stepT bx8 hR8 hb 6 (by decide) (by decide) rfl rfl fun w9 ow9 bx9 hR9 => ?_
        refine stepN bx9 hR9 hb 9 (by decide) rfl fun wa bxa hRa => stepS bxa hRa hb 8 (by decide) rfl fun wb bxb hRb => ?_
        exact done _ _ wb _ (by omega) (by rw [hI, hS, hM (by omega)]; rfl) rfl rfl rfl bxb hRb
      · refine ⟨fun s w' => w' = w5 ∧ s.1 = decide (kd = 5 ∨ kd = 6 ∨ kd = 7), ?_, ?_⟩
        · refine cond_eq (fun e5 => ⟨rfl, ?_⟩) (fun n5 => cond_eq (fun e6 => ⟨rfl, ?_⟩) (fun n6 => ⟨rfl, ?_⟩))
          · rw [decide_eq_true (.inl e5)]
            exact decide_eq_true e5
          · rw [decide_eq_true (.inr (.inl e6))]
            exact decide_eq_true e6
          · by_cases e7 : kd = 7
            · rw [decide_eq_true (.inr (.inr e7))]
              exact decide_eq_true e7
            · rw [decide_eq_false (by omega)]
              exact decide_eq_false e7
        rintro ⟨q, u⟩ w6 ⟨hw6, hq⟩ _
        dsimp only at hq
        subst hq
        rw [hw6]
        refine cond_d (fun e567 => ?_) (fun n567 => ?_)
        · have hI : iof kd = [2, 3] := by unfold iof; rw [if_neg (by omega), if_neg (by omega), if_neg (by omega), if_pos e567]
          have hS : sof kd = [] := by unfold sof; rw [if_neg (by omega), if_neg (by omega)]
          refine stepN bx5 hR5 hb 2 (by decide) rfl fun w6 bx6 hR6 => stepN bx6 hR6 hb 3 (by decide) rfl fun w7 bx7 hR7 => ?_
          exact done _ _ w7 _ (by omega) (by rw [hI, hS, hM (by omega)]; rfl) rfl rfl rfl bx7 hR7
        · have e8 : kd = 8 := by omega
          refine cond_eq (fun _ => ?_) (fun hh => absurd e8 hh)
          have hI : iof kd = [16] := by unfold iof; rw [if_neg (by omega), if_pos e8]
          have hS : sof kd = [] := by unfold sof; rw [if_neg (by omega), if_neg (by omega)]
          have hM8 : mst kd = 2147483648 := by unfold mst; rw [if_pos e8]
          refine rcheckpoint_c hR5 hb fun x hx m L D w6 ow6 hR6 hxe hlv hdv hll hdl hm1 hm2 f6 => ⟨_, _, _, _, _, _, _, rfl, ?_⟩
          have bx6 := bx5.fr f6 (by omega) (by omega) (by omega)
          have hrec : rdRec bs kd a3.2 = x := by
            unfold rdRec rdTail
            rw [hI, hS, hM8, hx]
            rw [if_pos (by exact e8), e8]
            rfl
          refine bx6.st { kind := kd } { m with da := none, dl := 0, dc := 0 } rfl (Nat.le_of_ble_eq_true rfl) rfl fun w7 bx7 f7 => ?_
          refine bx7.st { kind := kd } m rfl (Nat.le_of_ble_eq_true rfl) rfl fun w8 bx8 f8 => ?_
          refine bx8.st { kind := kd, next := ((rdU bs a3.2 2147483648).1 : Int), live := L, dirty := D } m rfl (Nat.le_of_ble_eq_true rfl) rfl fun w9 bx9 f9 => ?_
          refine ⟨_, m, x.2, ow6, bx9, ((hR6.fr f7 (by omega)).fr f8 (by omega)).fr f9 (by omega), ⟨((hlv.fr f7 (by omega)).fr f8 (by omega)).fr f9 (by omega), ((hdv.fr f7 (by omega)).fr f8 (by omega)).fr f9 (by omega), hll, hdl⟩, hm1, hm2, by rw [hrec], fun hz => ?_⟩
          rw [hrec, hxe hz, e8]
  · rintro _ we ⟨r, m, st, ow, bx, hR, hL, hml, hmd, hst, hrr⟩ _
    dsimp only at hdec
    rw [hst] at hdec
    refine hR.E fun wf hRf ff => ⟨rfl, ?_⟩
    have bxg := bx.fr ff (by omega) (by omega) (by omega)
    have hLg := hL.fr ff (by omega) (by omega)
    have nb1 : b1 ≠ B := fun hh => by
      have := hR.t3 B (.inl rfl)
      rw [← hh, bx.t1] at this
      omega
    refine bad_c hRf ⟨_, rfl, cond_d (fun hne => ?_) (fun he => ?_)⟩
    · dsimp only at hne
      refine ⟨fun w' => w'.cell? (Addr.add ⟨B, 0, none⟩ 2) = some (.int .i64 (endE bs st : Int)), hRf.err, NilF.intro rfl ⟨_, fun w' hw' => hw', ?_⟩⟩
      have xd : Blk wf.drew b1 (({} : RV).ca {}) T_api_Record := bxg.x1
      refine rec_st xd {} {} fun wh hbh kh => ⟨?_, rec_rd hbh ?_⟩
      · exact kh.cell (by exact hRf.err) (fun hh => nb1 hh.symm)
      have f : Fro (fun t => t ≠ 1) wf ow wh ow := Fro.of_kp' ((Kp.drew wf 1).of_no.trans0 kh) fun b _ hb' hne => hne (by rw [hb']; exact bxg.t1)
      have ho := bxg.old.fr f (by omega)
      have hd : decB bs = ({}, endE bs st) := by rw [hdec, if_pos hne]
      exact hfin _ _ hd {} wh ow ho.kp ho (e0 _ _)
    have he0 : endE bs st = 0 := by simpa using he
    have hs0 : st.2 = 0 := by
      unfold endE at he0
      split at he0
      · cases he0
      · exact he0
    rw [hrr hs0, if_neg (by omega)] at hdec
    refine rec_rd bxg.x2 (rcheck_c (r := r) (m := m) (hLg.li (by omega) (by omega)) fun wh kh => ⟨_, rfl, ?_⟩)
    have fh : Fro (fun _ => True) wf ow wh ow := Fro.of_kp' kh fun _ _ h => h.elim
    have bxh := bxg.fr fh trivial trivial trivial
    have hLh := hLg.fr fh trivial trivial
    refine cond_ne (fun hne => ?_) (fun he => ?_)
    · refine rec_st bxh.x1 {} {} fun wi hbi ki => rec_rd hbi ?_
      have f : Fro (fun t => t ≠ 1) wh ow wi ow := Fro.of_kp' ki fun b _ hb' hne => hne (by rw [hb']; exact bxh.t1)
      have ho := bxh.old.fr f (by omega)
      have hd : decB bs = ({}, chkN r) := by rw [hdec, if_pos (by omega)]
      exact hfin _ _ hd {} wi ow ho.kp ho (e0 _ _)
    · refine rec_rd bxh.x2 (rec_st bxh.x1 r m fun wi hbi ki => rec_rd hbi ?_)
      have f : Fro (fun t => t ≠ 1) wh ow wi ow := Fro.of_kp' ki fun b _ hb' hne => hne (by rw [hb']; exact bxh.t1)
      have ho := bxh.old.fr f (by omega)
      have hd : decB bs = (r, 0) := by rw [hdec, if_neg (by omega)]
      exact hfin _ _ hd m wi ow ho.kp ho (hLh.fr f (by omega) (by omega))
def endS (g : Lg) : ByteArray := if g.err = 0 then ByteArray.empty else zFo
structure Mh where
  ra : Option Addr
  rc : Nat
  ms : List Mm
def mgc (rb : Nat) (H : Mh) (g : Lg) : Array Value := #[.pointer (some ⟨rb, 0, none⟩), .int .i64 (g.first : Int), .int .i64 (g.count : Int), .slice H.ra g.recs.length H.rc, .int .i64 (g.forced : Int), .string (endS g), .int .i64 0, .int .i64 (g.err : Int)]
structure MX (w : World) (ow : Nat → Nat) (t mb rb : Nat) (H : Mh) (g : Lg) : Prop where
  blk : Blk w mb (mgc rb H g) T_quotaref06_Log
  tb : ow mb = t + 20
  ml : H.ms.length = g.recs.length
  rs : SlT w ow T_api_Record 17 H.ra g.recs.length H.rc (flatV cR (List.zip g.recs H.ms)) (t + 21)
  li : ∀ k (h : k < g.recs.length) (h' : k < H.ms.length), LiT w ow (t + 22) H.ms[k] g.recs[k]
  ok : g.Ok
abbrev Tm (t : Nat) : Nat → Prop := fun u => u ≠ t + 20 ∧ u ≠ t + 21
theorem MX.fr {T : Nat → Prop} {w w' : World} {ow ow' : Nat → Nat} {t mb rb : Nat} {H : Mh} {g : Lg} (h : MX w ow t mb rb H g) (f : Fro T w ow w' ow') (h0 : T (t + 20)) (h1 : T (t + 21)) (h2 : T (t + 22)) : MX w' ow' t mb rb H g := by
  obtain ⟨a, b⟩ := blk_fr h.blk h.tb f h0
  exact ⟨a, b, h.ml, h.rs.fr f h1, fun k h' h'' => (h.li k h' h'').fr f h2, h.ok⟩
def MG (w : World) (ow : Nat → Nat) (t mb rb : Nat) (g : Lg) : Prop := ∃ H, MX w ow t mb rb H g
theorem MG.fr {T : Nat → Prop} {w w' : World} {ow ow' : Nat → Nat} {t mb rb : Nat} {g : Lg} (h : MG w ow t mb rb g) (f : Fro T w ow w' ow') (h0 : T (t + 20)) (h1 : T (t + 21)) (h2 : T (t + 22)) : MG w' ow' t mb rb g := by
  obtain ⟨H, h⟩ := h
  exact ⟨H, h.fr f h0 h1 h2⟩
theorem MG.kp0 {w w' : World} {ow : Nat → Nat} {t mb rb : Nat} {g : Lg} (h : MG w ow t mb rb g) (k : Kp no w w') : MG w' ow t mb rb g := h.fr (Fro.kp0 k) trivial trivial trivial
theorem MG.end_ {w : World} {ow : Nat → Nat} {t mb rb : Nat} {g : Lg} (h : MG w ow t mb rb g) : w.cell? (Addr.add ⟨mb, 0, none⟩ 5) = some (.string (endS g)) ∧ w.cell? (Addr.add (Addr.add ⟨mb, 0, none⟩ 5) 1) = some (.int .i64 0) ∧ w.cell? (Addr.add (Addr.add ⟨mb, 0, none⟩ 5) 2) = some (.int .i64 (g.err : Int)) := by
  obtain ⟨H, h⟩ := h
  exact ⟨h.blk.at (add1 _ _) rfl, h.blk.at (add2 _ _ _) rfl, h.blk.at (add2 _ _ _) rfl⟩
section
variable {w : World} {ow : Nat → Nat} {t mb rb : Nat} {g : Lg} {R : Po}
theorem rforced_c (h : MG w ow t mb rb g) (hK : R (.returned (.int .i64 (g.forced : Int))) w) : GoC Tryz.prog F_ref06_Log_Forced #[.pointer (some ⟨mb, 0, none⟩)] w R := by
  obtain ⟨H, h⟩ := h
  refine S_ref06_Log_Forced ?_
  unfold W_ref06_Log_Forced
  exact NilF.intro rfl ⟨_, h.blk.at (add1 _ _) rfl, hK⟩
theorem rlast_c (h : MG w ow t mb rb g) (hK : R (.returned (.int .i64 (g.recs.length : Int))) w) : GoC Tryz.prog F_ref06_Log_Last #[.pointer (some ⟨mb, 0, none⟩)] w R := by
  obtain ⟨H, h⟩ := h
  refine S_ref06_Log_Last ?_
  unfold W_ref06_Log_Last
  exact NilF.intro rfl ⟨_, _, _, h.blk.at (add1 _ _) rfl, hK⟩
theorem rfree_c (h : MG w ow t mb rb g) (hK : ∀ w', Kp no w w' → R (.returned (.int .i64 ((g.count - g.recs.length : Nat) : Int))) w') : GoC Tryz.prog F_ref06_Log_Free #[.pointer (some ⟨mb, 0, none⟩)] w R := by
  obtain ⟨H, h⟩ := h
  refine S_ref06_Log_Free ?_
  unfold W_ref06_Log_Free
  refine NilF.intro rfl ⟨_, h.blk.at (add1 _ _) rfl, NilF.intro rfl ⟨_, _, _, h.blk.at (add1 _ _) rfl, ?_⟩⟩
  have h1 := h.ok.n
  have h2 := h.ok.c
  have e : IntKind.wrap .i64 ((g.count : Int) - (g.recs.length : Int)) = ((g.count - g.recs.length : Nat) : Int) := by rw [wrap_i64 (by omega) (by omega)]; omega
  intro k
  rw [e]
  exact hK _ (Kp.drew w k)
theorem own_c {w : World} {r : RV} {m : Mm} {R : Po} (hi : LiIn w m r.live r.dirty) (hl : m.ll ≤ 1000) (hd : m.dl ≤ 1000) (h : ∀ m' w' ow, Kp no w w' → Old w w' ow → LsR w' ow r m' → R (.returned (.agg (r.ca m'))) w') : GoC Tryz.prog F_ref05_Own #[.agg (r.ca m)] w R := by
  refine S_ref05_Own ?_
  unfold W_ref05_Own
  have hll := hi.ll
  have hdl := hi.dl
  obtain ⟨nl, nd⟩ := hi.nl
  refine AlF.intro fun b1 w1 hb1e hb1 k1 _ => AlF.intro fun b2 w2 hb2e hb2 k2 _ => ?_
  have f1 : Fro (fun _ => True) w (fun _ => 0) w1 (ext (fun _ => 0) w.heap.size 2) := Fro.of_kp0 2 k1
  have f2 : Fro (fun _ => True) w1 (ext (fun _ => 0) w.heap.size 2) w2 (ext (ext (fun _ => 0) w.heap.size 2) w1.heap.size 1) := Fro.of_kp0 1 k2
  have o0 : Old w w fun _ => 0 := ⟨Kp.refl _ _, fun _ _ => rfl⟩
  have bx : Bx w w2 (ext (ext (fun _ => 0) w.heap.size 2) w1.heap.size 1) b2 b1 r m := by
    obtain ⟨a, b⟩ := blk_fr hb1 (ext_new (by omega) : ext (fun _ => 0) w.heap.size 2 b1 = 2) f2 trivial
    exact ⟨(o0.fr f1 trivial).fr f2 trivial, hb2, ext_new (by omega), a, b⟩
  generalize ext (ext (fun _ => 0) w.heap.size 2) w1.heap.size 1 = ow at bx
  refine ⟨_, _, _, bx.x2.at rfl rfl, append_new er_lv (hi.kp0 bx.old.kp).l (by rw [flatV_len LV.csl, hll]) nl (flatV_one LV.cs1 _) (by omega) (by omega) fun a3 c3 w3 hs3 k3 hf3 _ => ⟨_, _, _, rfl, ?_⟩⟩
  have f3 : Fro (fun _ => True) w2 ow w3 (ext ow w2.heap.size 4) := Fro.of_kp0 4 k3
  have hs3 := new_slt (ow := ow) 4 hs3 hf3
  refine (bx.fr f3 trivial trivial trivial).st r { m with la := a3, lc := c3 } rfl (Nat.le_of_ble_eq_true rfl) rfl fun w4 bx4 f4 => ?_
  have hs4 := hs3.fr f4 (by omega)
  generalize ext ow w2.heap.size 4 = ow3 at *
  refine ⟨_, _, _, bx4.x2.at rfl rfl, append_new er_dv (hi.kp0 bx4.old.kp).d (by rw [flatV_len DV.csl, hdl]) nd (flatV_one DV.cs1 _) (by omega) (by omega) fun a5 c5 w5 hs5 k5 hf5 _ => ⟨_, _, _, rfl, ?_⟩⟩
  have f5 : Fro (fun _ => True) w4 ow3 w5 (ext ow3 w4.heap.size 5) := Fro.of_kp0 5 k5
  have hs5 := new_slt (ow := ow3) 5 hs5 hf5
  have hs4 := hs4.fr f5 trivial
  refine (bx4.fr f5 trivial trivial trivial).st r { la := a3, ll := m.ll, lc := c3, da := a5, dl := m.dl, dc := c5 } rfl (Nat.le_of_ble_eq_true rfl) rfl fun w6 bx6 f6 => ?_
  have hs6 := hs4.fr f6 (by omega)
  have hd6 := hs5.fr f6 (by omega)
  refine rec_rd bx6.x2 (rec_st bx6.x1 r { la := a3, ll := m.ll, lc := c3, da := a5, dl := m.dl, dc := c5 } fun w7 hb7 k7 => rec_rd hb7 ?_)
  have f7 : Fro (fun t => t ≠ 1) w6 (ext ow3 w4.heap.size 5) w7 (ext ow3 w4.heap.size 5) := Fro.of_kp' k7 fun b _ hb' hne => hne (by rw [hb']; exact bx6.t1)
  have ho := bx6.old.fr f7 (by omega)
  exact h _ w7 _ ho.kp ho ⟨hs6.fr f7 (by omega), hd6.fr f7 (by omega), hll, hdl⟩
theorem rown_rec_c {w : World} {r : RV} {m : Mm} {R : Po} (hi : LiIn w m r.live r.dirty) (hl : m.ll ≤ 1000) (hd : m.dl ≤ 1000) (h : ∀ m' w', Kp no w w' → OwnL w w' r m' → R (.returned (.agg (r.ca m'))) w') : GoC Tryz.prog F_ref05_Own #[.agg (r.ca m)] w R :=
  own_c hi hl hd fun m' w' ow k o ls => h m' w' k ⟨by rw [ls.ll]; exact ls.lv.sl, by rw [ls.dl]; exact ls.dv.sl, ls.ll.symm, ls.dl.symm, fresh_of o ls.lv.tg (by decide), fresh_of o ls.dv.tg (by decide), fun j hj hh => by have := ls.lv.tg j hj; have := ls.dv.tg j hh; omega⟩
theorem MX.recAt {H : Mh} (h : MX w ow t mb rb H g) {k : Nat} (hk : k < g.recs.length) : ∃ b, H.ra = some ⟨b, 0, none⟩ ∧ ∃ m, H.ms[k]? = some m ∧ LiT w ow (t + 22) m g.recs[k] ∧ ∀ j v, ((g.recs[k]).ca m).toList[j]? = some v → w.cell? (Addr.add ((⟨b, 0, none⟩ : Addr).add (k * 17)) j) = some v := by
  have hm : k < H.ms.length := by rw [h.ml]; exact hk
  obtain ⟨b, cur, ha, hb, hs, ht⟩ := h.rs.sl.addr (by omega)
  refine ⟨b, ha, H.ms[k], List.getElem?_eq_getElem hm, h.li k hk hm, fun j v hv => ?_⟩
  have hj : j < 17 := (List.getElem?_eq_some_iff.1 hv).1
  have hz : k < (List.zip g.recs H.ms).length := by rw [List.length_zip]; omega
  have e := flatV_get cR_len (List.zip g.recs H.ms) k hz j hj
  have ez : (List.zip g.recs H.ms)[k] = (g.recs[k], H.ms[k]) := List.getElem_zip
  rw [ez] at e
  have hx := h.rs.sl.rd (k * 17 + j) v (by rw [e]; exact hv)
  obtain ⟨b', o', ha', hc⟩ := hx
  rw [ha] at ha'
  cases ha'
  rw [add_at, add_at, Nat.zero_add]
  rw [Nat.zero_add] at hc
  exact hc
theorem MX.recAt0 {b : Nat} {r : RV} {m : Mm} {k : Nat} (h : ∀ j v, (r.ca m).toList[j]? = some v → w.cell? (Addr.add ((⟨b, 0, none⟩ : Addr).add (k * 17)) j) = some v) : ∀ v, (r.ca m).toList[0]? = some v → w.cell? ((⟨b, 0, none⟩ : Addr).add (k * 17)) = some v := fun v hv => by
  have := h 0 v hv
  rw [add_at, add_at] at this
  rw [add_at]
  exact this
set_option maxHeartbeats 1000000 in
theorem rget_c {n : Int} (h : MG w ow t mb rb g) (hn : i64 n) (hK : ∀ m w', Kp no w w' → OwnL w w' (getG g n).1 m → R (.returned (.tuple #[.agg ((getG g n).1.ca m), .int .i64 ((getG g n).2 : Int)])) w') : GoC Tryz.prog F_ref06_Log_Get #[.pointer (some ⟨mb, 0, none⟩), .int .i64 n] w R := by
  obtain ⟨H, h⟩ := h
  refine S_ref06_Log_Get ?_
  unfold W_ref06_Log_Get
  have hok := h.ok
  refine Loc.al (Kp.refl _ w) fun b1 w1 h1 k1 g1 => ?_
  have h1 : Loc w w1 b1 (({} : RV).ca {}) T_api_Record := h1
  have X := h.fr (Fro.kp0 k1) trivial trivial trivial
  have bad : ∀ e : Nat, getG g n = ({}, e) → ∀ w2, Loc w w2 b1 (({} : RV).ca {}) T_api_Record → R (.returned (.tuple #[.agg (({} : RV).ca {}), .int .i64 (e : Int)])) w2 := fun e he w2 h2 => by
    have := hK {} w2 h2.kp
    rw [he] at this
    exact this (OwnL.zero _ _)
  refine NilF.intro rfl ⟨_, X.blk.at (add2 _ _ _) rfl, cond_ne (fun he => ?_) (fun he => ?_)⟩
  · refine rec_st h1.blk {} {} fun w7 hb7 k7 => rec_rd hb7 (bad 40 ?_ w7 ⟨hb7, h1.nw, kp_blk h1.kp h1.nw k7⟩)
    unfold getG
    rw [if_pos (by omega)]
  refine cond_d (fun hn1 => ?_) (fun hn1 => NilF.intro rfl ⟨_, _, _, X.blk.at (add1 _ _) rfl, cond_d (fun hn2 => ?_) (fun hn2 => ?_)⟩)
  · refine rec_st h1.blk {} {} fun w7 hb7 k7 => rec_rd hb7 (bad 4 ?_ w7 ⟨hb7, h1.nw, kp_blk h1.kp h1.nw k7⟩)
    unfold getG
    rw [if_neg (by omega), if_pos hn1]
  · refine rec_st h1.blk {} {} fun w7 hb7 k7 => rec_rd hb7 (bad 4 ?_ w7 ⟨hb7, h1.nw, kp_blk h1.kp h1.nw k7⟩)
    unfold getG
    rw [if_neg (by omega), if_neg hn1, if_pos hn2]
  refine NilF.intro rfl ⟨_, _, _, X.blk.at (add1 _ _) rfl, ?_⟩
  obtain ⟨k, rfl⟩ := Int.eq_ofNat_of_zero_le (show 0 ≤ n by omega)
  have hc := hok.c
  have hcn := hok.n
  have e1 : IntKind.wrap .i64 ((k : Int) - 1) = ((k - 1 : Nat) : Int) := by rw [wrap_i64 (by omega) (by omega)]; omega
  rw [e1]
  have hk : k - 1 < g.recs.length := by omega
  obtain ⟨b, ha, m, hm, hli, cj⟩ := X.recAt hk
  have hg : getG g (k : Int) = (g.recs[k - 1], 0) := by
    unfold getG
    rw [if_neg (by omega), if_neg (by omega), if_neg (by omega), Int.toNat_natCast, List.getD_eq_getElem?_getD, List.getElem?_eq_getElem hk]
    rfl
  rw [hg] at hK
  have c0 := MX.recAt0 cj
  refine ⟨by omega, by omega, _, ha, ?_⟩
  simp only [Int.toNat_natCast]
  refine ⟨_, _, _, _, _, _, _, _, _, _, _, _, _, _, _, _, _, _, _, _, _, ⟨c0 _ rfl, cj 1 _ rfl, cj 2 _ rfl, cj 3 _ rfl, cj 4 _ rfl, cj 5 _ rfl, cj 6 _ rfl, cj 7 _ rfl, cj 8 _ rfl, cj 9 _ rfl, cj 10 _ rfl, cj 11 _ rfl, cj 12 _ rfl, cj 13 _ rfl, cj 14 _ rfl, cj 15 _ rfl, cj 16 _ rfl, trivial⟩, ?_⟩
  refine rown_rec_c (r := g.recs[k - 1]) (m := m) hli.li hli.lb hli.db fun m' w3 k3 ho => ⟨_, _, _, _, _, _, _, _, _, _, _, _, _, _, _, _, _, _, _, _, _, rfl, ?_⟩
  have h13 := h1.kp' k3
  refine rec_st h13.blk g.recs[k - 1] m' fun w7 hb7 k7 => rec_rd hb7 (hK m' w7 (kp_blk h13.kp h13.nw k7) ?_)
  have s1 := h1.blk.lt
  have hb1 := h1.nw
  exact ⟨ho.l.kp k7 fun j hj hh => by have := ho.fl j hj; omega, ho.d.kp k7 fun j hj hh => by have := ho.fd j hj; omega, ho.ll, ho.dl, fun j hj => Nat.le_trans h1.kp.size (ho.fl j hj), fun j hj => Nat.le_trans h1.kp.size (ho.fd j hj), ho.ap⟩
def Mh.add (H : Mh) (a : Option Addr) (c : Nat) (m : Mm) : Mh := ⟨a, c, H.ms ++ [m]⟩
set_option maxHeartbeats 2000000 in
theorem rappend_c {r : RV} {m : Mm} (h : MG w ow t mb rb g) (hi : LiIn w m r.live r.dirty) (h64 : r.w64)
    (hK : ∀ w' ow', MG w' ow' t mb rb (appR g r).2 → Fro (Tm t) w ow w' ow' → R (.returned (.tuple #[.int .i64 ((appR g r).1.1 : Int), .int .i64 ((appR g r).1.2 : Int)])) w') :
    GoC Tryz.prog F_ref06_Log_Append #[.pointer (some ⟨mb, 0, none⟩), .agg (r.ca m)] w R := by
  obtain ⟨H, h⟩ := h
  refine S_ref06_Log_Append ?_
  unfold W_ref06_Log_Append
  have hok := h.ok
  have okf := hok.f
  have okn := hok.n
  have okc := hok.c
  refine AlF.intro fun b1 w1 hb1e hb1 k1 _ => ?_
  have hge : w.heap.size ≤ b1 := by omega
  have f1 : Fro (fun _ => True) w ow w1 (ext ow w.heap.size (t + 26)) := Fro.of_kp0 (t + 26) k1
  have t1 : ext ow w.heap.size (t + 26) b1 = t + 26 := ext_new hge
  have F1 : Fro (Tm t) w ow w1 (ext ow w.heap.size (t + 26)) := f1.mono fun _ _ => trivial
  have X1 := h.fr f1 trivial trivial trivial
  generalize ext ow w.heap.size (t + 26) = ow1 at *
  have hb1 : Blk w1 b1 (r.ca m) T_api_Record := hb1
  refine NilF.intro rfl ⟨_, X1.blk.at (add2 _ _ _) rfl, cond_ne (fun he => ?_) (fun he => ?_)⟩
  · have hk := hK w1 ow1
    unfold appR at hk
    rw [if_pos (by omega)] at hk
    exact hk ⟨H, X1⟩ F1
  have he0 : g.err = 0 := by omega
  refine NilF.intro rfl ⟨_, _, _, X1.blk.at (add1 _ _) rfl, ?_⟩
  have e1 : IntKind.wrap .i64 (((g.recs.length : Nat) : Int) + 1) = ((g.recs.length + 1 : Nat) : Int) := by rw [wrap_i64 (by omega) (by omega)]; omega
  rw [e1]
  refine StF.at rfl hb1 (Nat.le_of_ble_eq_true rfl) fun w2 hb2 k2 _ => ?_
  have hb2 : Blk w2 b1 ((nxtR g r).ca m) T_api_Record := hb2
  have k02 := kp_blk k1 hge k2
  have f2 : Fro (fun u => u ≠ t + 26) w1 ow1 w2 ow1 := Fro.of_kp' k2 fun j _ hj hne => hne (by rw [hj]; exact t1)
  have F2 : Fro (Tm t) w ow w2 ow1 := ⟨k02.of_no, F1.ag⟩
  have X2 := X1.fr f2 (by omega) (by omega) (by omega)
  have hi2 : LiIn w2 m (nxtR g r).live (nxtR g r).dirty := hi.kp0 k02
  refine rec_rd hb2 (rcheck_c (r := nxtR g r) (m := m) hi2 fun w3 k3 => ⟨_, rfl, cond_ne (fun hc => ?_) (fun hc => ?_)⟩)
  · have hk := hK w3 ow1
    unfold appR at hk
    rw [if_neg (by omega), if_pos (by omega)] at hk
    exact hk ⟨H, X2.fr (Fro.kp0 k3) trivial trivial trivial⟩ (F2.trans ((Fro.kp0 k3).mono fun _ _ => trivial))
  have hc0 : chkN (nxtR g r) = 0 := by omega
  have X3 := X2.fr (Fro.kp0 k3) trivial trivial trivial
  refine rfree_c ⟨H, X3⟩ fun w4 k4 => ⟨_, rfl, cond_d (fun hz => ?_) (fun hz => ?_)⟩
  · have hk := hK w4 ow1
    unfold appR at hk
    rw [if_neg (by omega), if_neg (by omega), if_pos (by omega)] at hk
    exact hk ⟨H, X3.fr (Fro.kp0 k4) trivial trivial trivial⟩ (F2.trans ((Fro.kp0 (k3.trans0 k4)).mono fun _ _ => trivial))
  have k34 := k3.trans0 k4
  have X4 := X3.fr (Fro.kp0 k4) trivial trivial trivial
  have F4 : Fro (Tm t) w ow w4 ow1 := F2.trans ((Fro.kp0 k34).mono fun _ _ => trivial)
  have hb4 := k34.blk hb2 id
  obtain ⟨cl1, cl2⟩ := chk_short hc0
  have hi4 := hi2.kp0 k34
  have kd : Kp no w4 w4.drew := Kp.drew w4 1
  have X4d := X4.fr (Fro.kp0 kd) trivial trivial trivial
  have hbd := kd.blk hb4 id
  refine ⟨fun w' => Blk w' mb (mgc rb H g) T_quotaref06_Log ∧ Blk w' b1 ((nxtR g r).ca m) T_api_Record, ⟨X4d.blk, hbd⟩, NilF.intro rfl ⟨_, _, _, fun w' hw => hw.1.at (add1 _ _) rfl, ?_⟩⟩
  refine ⟨_, _, _, _, _, _, _, _, _, _, _, _, _, _, _, _, _, _, _, _, _, fun w' hw => ⟨hw.2.at rfl rfl, hw.2.at rfl rfl, hw.2.at rfl rfl, hw.2.at rfl rfl, hw.2.at rfl rfl, hw.2.at rfl rfl, hw.2.at rfl rfl, hw.2.at rfl rfl, hw.2.at rfl rfl, hw.2.at rfl rfl, hw.2.at rfl rfl, hw.2.at rfl rfl, hw.2.at rfl rfl, hw.2.at rfl rfl, hw.2.at rfl rfl, hw.2.at rfl rfl, hw.2.at rfl rfl, trivial⟩, ?_⟩
  have hmll : m.ll ≤ 1000 := by have := hi2.ll; omega
  have hmdl : m.dl ≤ 1000 := by have := hi2.dl; omega
  refine rown_rec_c (r := nxtR g r) (m := m) (hi4.kp0 kd) hmll hmdl fun m' w6 k6 o6 => ⟨_, _, _, _, _, _, _, _, _, _, _, _, _, _, _, _, _, _, _, _, _, rfl, ?_⟩
  have f6 : Fro (fun _ => True) w4.drew ow1 w6 (ext ow1 w4.drew.heap.size (t + 22)) := Fro.of_kp0 (t + 22) k6
  have l6 : LiT w6 (ext ow1 w4.drew.heap.size (t + 22)) (t + 22) m' (nxtR g r) := o6.lit (t + 22) (by rw [o6.ll]; omega) (by rw [o6.dl]; omega)
  have fd : Fro (fun _ => True) w4 ow1 w4.drew ow1 := Fro.kp0 kd
  have X6 := X4d.fr f6 trivial trivial trivial
  have F6 : Fro (Tm t) w ow w6 (ext ow1 w4.drew.heap.size (t + 22)) := (F4.trans (fd.mono fun _ _ => trivial)).trans (f6.mono fun _ _ => trivial)
  obtain ⟨hb6, t6⟩ := blk_fr hbd t1 f6 trivial
  generalize ext ow1 w4.drew.heap.size (t + 22) = ow6 at *
  refine ⟨⟨X6.blk, hb6⟩, AlF.intro fun b2 w7 hb2e hb27 k7 _ => ?_⟩
  have f7 : Fro (fun _ => True) w6 ow6 w7 (ext ow6 w6.heap.size (t + 26)) := Fro.of_kp0 (t + 26) k7
  have X7 := X6.fr f7 trivial trivial trivial
  have l7 := l6.fr f7 trivial
  have F7 := F6.trans (f7.mono fun _ _ => trivial)
  obtain ⟨hb7, t7⟩ := blk_fr hb6 t6 f7 trivial
  generalize ext ow6 w6.heap.size (t + 26) = ow7 at *
  refine ⟨⟨X7.blk, hb7⟩, ?_⟩
  have hb27 : Blk w7 b2 ((nxtR g r).ca m') T_api_Record := hb27
  refine app_c er_rec X7.rs (rd_cells hb27 (rfl : _ = cR (nxtR g r, m'))) (by rfl) (fun h => by cases h) (cR_one _) (by omega) (by omega) fun a' c' w8 hs8 k8 f8 => ⟨_, _, _, rfl, ?_⟩
  obtain ⟨x8, tx8⟩ := blk_fr X7.blk X7.tb f8 (by omega)
  obtain ⟨hb8, t8⟩ := blk_fr hb7 t7 f8 (by omega)
  have F8 := F7.trans (f8.mono fun u hu => hu.2)
  have l8 := l7.fr f8 (by omega)
  have li8 := fun k h' h'' => (X7.li k h' h'').fr f8 (by omega)
  generalize ext ow7 w7.heap.size (t + 21) = ow8 at *
  refine ⟨⟨x8, hb8⟩, NilF.intro rfl ?_⟩
  refine StF.at (add1 _ _) x8 (Nat.le_of_ble_eq_true rfl) fun w9 x9 k9 _ => ?_
  have f9 : Fro (fun u => u ≠ t + 20) w8 ow8 w9 ow8 := Fro.of_kp' k9 fun j _ hj hne => hne (by rw [hj]; exact tx8)
  have F9 := F8.trans (f9.mono fun u hu => hu.1)
  have l9 := l8.fr f9 (by omega)
  have hs9 := hs8.fr f9 (by omega)
  obtain ⟨hb9, t9⟩ := blk_fr hb8 t8 f9 (by omega)
  have li9 := fun k h' h'' => (li8 k h' h'').fr f9 (by omega)
  refine ⟨_, hb9.at rfl rfl, ?_⟩
  have hk := hK w9 ow8
  unfold appR at hk
  rw [if_neg (by omega), if_neg (by omega), if_neg (by omega)] at hk
  have elen : (g.recs ++ [nxtR g r]).length = g.recs.length + 1 := by simp
  refine hk ⟨H.add a' c' m', ⟨?_, tx8, ?_, ?_, ?_, hok.add (by omega) hc0 h64 rfl⟩⟩ F9
  · show Blk w9 mb #[.pointer (some ⟨rb, 0, none⟩), .int .i64 (g.first : Int), .int .i64 (g.count : Int), .slice a' (g.recs ++ [nxtR g r]).length c', .int .i64 (g.forced : Int), .string (endS g), .int .i64 0, .int .i64 (g.err : Int)] T_quotaref06_Log
    rw [elen]
    exact x9
  · show (H.ms ++ [m']).length = (g.recs ++ [nxtR g r]).length
    rw [List.length_append, List.length_append, h.ml]
    rfl
  · show SlT w9 ow8 T_api_Record 17 a' (g.recs ++ [nxtR g r]).length c' (flatV cR (List.zip (g.recs ++ [nxtR g r]) (H.ms ++ [m']))) (t + 21)
    rw [elen, List.zip_append h.ml.symm, flatV_app]
    have e : flatV cR (List.zip [nxtR g r] [m']) = cR (nxtR g r, m') := by simp [flatV]
    rw [e]
    exact hs9
  · intro k hk1 hk2
    have hk1 : k < (g.recs ++ [nxtR g r]).length := hk1
    have hk2 : k < (H.ms ++ [m']).length := hk2
    show LiT w9 ow8 (t + 22) (H.ms ++ [m'])[k] (g.recs ++ [nxtR g r])[k]
    have hml := h.ml
    by_cases hkl : k < g.recs.length
    · rw [List.getElem_append_left hkl, List.getElem_append_left (by omega)]
      exact li9 k hkl _
    · have hke : k = g.recs.length := by omega
      subst hke
      rw [List.getElem_append_right (Nat.le_refl _), List.getElem_append_right (by omega)]
      simpa using l9
end
theorem Kept_c {w : World} {a : Option Addr} {c k : Nat} {keep : List Nat} {n1 n2 : Int} {R : Po} (hr : Rd w a (keep.map u64v)) (hlt : ∀ x ∈ keep, x < 18446744073709551616) (hkl : keep.length ≤ 9223372036854775807) (hk : k ≤ 1000000000) (h : ∀ w', Kp no w w' → R (.returned (.bool (keptN keep k))) w') :
    GoC Tryz.prog F_ref03_Kept #[.agg #[.slice a keep.length c, .int .i64 n1, .int .i64 n2], .int .i64 (k : Int)] w R := by
  refine S_ref03_Kept ?_
  unfold W_ref03_Kept
  refine AlF.intro fun b1 w1 hb1e hb1 k1 s1 => ⟨by decide, ?_⟩
  have e1 : IntKind.wrap .i64 (Int.tdiv (k : Int) 64) = ((k / 64 : Nat) : Int) := by
    rw [show Int.tdiv (k : Int) 64 = ((k / 64 : Nat) : Int) from rfl]
    exact wrap_i64 (by omega) (by omega)
  have e2 : IntKind.wrap .u64 (Int.tmod (k : Int) 64) = ((k % 64 : Nat) : Int) := by
    rw [show Int.tmod (k : Int) 64 = ((k % 64 : Nat) : Int) from rfl]
    exact wrap_u64 (by omega) (by omega)
  rw [e1, e2]
  refine ⟨_, _, _, hb1.cell 0, cond_d (fun hlt' => ?_) (fun hge => ?_)⟩
  · have hkk : k / 64 < keep.length := by omega
    refine ⟨_, _, _, hb1.cell 0, by decide, ?_⟩
    obtain ⟨b, o, ha, hcell⟩ := (hr.kp0 k1) (k / 64) (u64v keep[k / 64]) (by simp [hkk])
    refine ⟨by omega, hlt', _, ha, (keep[k / 64] : Int), by rw [Int.toNat_natCast, add_at]; exact hcell, by decide, by omega, ?_⟩
    have hx := hlt _ (List.getElem_mem hkk)
    have e3 : andV .u64 (shrV .u64 (keep[k / 64] : Int) ((k % 64 : Nat) : Int)) 1 = ((keep[k / 64] / 2 ^ (k % 64) % 2 : Nat) : Int) := by
      rw [shrV_nat (by simp only [IntKind.bits]; omega), show (1 : Int) = ((1 : Nat) : Int) from rfl, andV_nat rfl (by simp only [IntKind.bits]; exact Nat.lt_of_le_of_lt (Nat.div_le_self _ _) (by omega)) (by simp only [IntKind.bits]; omega), and_1]
    rw [e3]
    have e4 : (((keep[k / 64] / 2 ^ (k % 64) % 2 : Nat) : Int) == 1) = keptN keep k := by
      unfold keptN
      rw [decide_eq_true hkk, Bool.true_and]
      have : keep.getD (k / 64) 0 = keep[k / 64] := by simp [hkk]
      rw [this]
      rw [Bool.eq_iff_iff, beq_iff_eq, decide_eq_true_eq]
      omega
    rw [e4]
    exact h w1 k1
  · have e4 : keptN keep k = false := by
      unfold keptN
      rw [decide_eq_false (by omega), Bool.false_and]
    have := h w1 k1
    rw [e4] at this
    exact this
def Dh.rs (H : Dh) (n il : Nat) (gone : Bool) (count step : Int) (ka : Option Addr) (kn kc : Nat) (kt ko : Int) : Array Value := #[.slice H.ia il H.ic, .slice H.pa n H.pc, .bool gone, .int .i64 count, .int .i64 step, .slice ka kn kc, .int .i64 kt, .int .i64 ko]
structure RP (w : World) (ow : Nat → Nat) (t b : Nat) (H : Dh) (Q : List PD) (ka : Option Addr) (kc : Nat) (kp : List Nat) (kt ko : Int) (v : Dv) : Prop where
  l : DL w ow t H Q v
  hb : Blk w b (H.rs Q.length v.img.length v.down v.calls v.step ka kp.length kc kt ko) T_quotaref03_Device
  bt : ow b = t
  ks : SlT w ow T_uint64 1 ka kp.length kc (kp.map u64v) (t + 3)
  kl : ∀ x ∈ kp, x < 18446744073709551616
  ke : v.step ≠ 0 → kp = v.keep ∧ kt = v.torn ∧ ko = v.off
section
variable {T : Nat → Prop} {w w' : World} {ow ow' : Nat → Nat} {t b kc : Nat} {H : Dh} {Q : List PD} {ka : Option Addr} {kp : List Nat} {kt ko : Int} {v : Dv}
theorem RP.fr (h : RP w ow t b H Q ka kc kp kt ko v) (f : Fro T w ow w' ow') (h0 : T t) (h1 : T (t + 1)) (h2 : T (t + 2)) (h3 : T (t + 3)) : RP w' ow' t b H Q ka kc kp kt ko v :=
  ⟨h.l.fr f h1 h2 h3, (blk_fr h.hb h.bt f h0).1, (blk_fr h.hb h.bt f h0).2, h.ks.fr f h3, h.kl, h.ke⟩
theorem RP.kp0 (h : RP w ow t b H Q ka kc kp kt ko v) (k : Kp no w w') : RP w' ow t b H Q ka kc kp kt ko v := h.fr (Fro.kp0 k) trivial trivial trivial trivial
end
def RX (w : World) (ow : Nat → Nat) (t b : Nat) (v : Dv) : Prop := ∃ (H : Dh) (Q : List PD) (ka : Option Addr) (kc : Nat) (kp : List Nat) (kt ko : Int), RP w ow t b H Q ka kc kp kt ko v
theorem RX.fr {T : Nat → Prop} {w w' : World} {ow ow' : Nat → Nat} {t b : Nat} {v : Dv} (h : RX w ow t b v) (f : Fro T w ow w' ow') (h0 : T t) (h1 : T (t + 1)) (h2 : T (t + 2)) (h3 : T (t + 3)) : RX w' ow' t b v := by
  obtain ⟨H, Q, ka, kc, kp, kt, ko, h⟩ := h
  exact ⟨H, Q, ka, kc, kp, kt, ko, h.fr f h0 h1 h2 h3⟩
theorem RX.kp0 {w w' : World} {ow : Nat → Nat} {t b : Nat} {v : Dv} (h : RX w ow t b v) (k : Kp no w w') : RX w' ow t b v := h.fr (Fro.kp0 k) trivial trivial trivial trivial
theorem RX.ok {w : World} {ow : Nat → Nat} {t b : Nat} {v : Dv} (h : RX w ow t b v) : v.Ok := by
  obtain ⟨H, Q, ka, kc, kp, kt, ko, h⟩ := h
  exact h.l.ok
section
variable {w : World} {ow : Nat → Nat} {t b : Nat} {v : Dv} {R : Po}
theorem rsize_c (h : RX w ow t b v) (hK : R (.returned (.int .i64 (v.n : Int))) w) : GoC Tryz.prog F_ref03_Device_Sectors #[.pointer (some ⟨b, 0, none⟩)] w R := by
  obtain ⟨H, Q, ka, kc, kp, kt, ko, h⟩ := h
  have := h.l.ok.len
  have := h.l.ok.n2
  refine S_ref03_Device_Sectors ?_
  unfold W_ref03_Device_Sectors
  refine ⟨_, _, _, c0 h.hb rfl, by decide, ?_⟩
  have e : IntKind.wrap .i64 (Int.tdiv (v.img.length : Int) 512) = (v.n : Int) := by
    rw [show Int.tdiv (v.img.length : Int) 512 = (v.n : Int) from rfl]
    exact wrap_i64 (by omega) (by omega)
  rw [e]
  exact hK
theorem rthere_c {i : Int} (h : RX w ow t b v) (hK : R (.returned (.bool (decide (v.there i)))) w) : GoC Tryz.prog F_ref03_Device_there #[.pointer (some ⟨b, 0, none⟩), .int .i64 i] w R := by
  refine S_ref03_Device_there ?_
  unfold W_ref03_Device_there
  refine cond_d (fun h1 => rsize_c h ⟨_, rfl, ?_⟩) (fun h1 => ?_)
  · have e : decide (i < (v.n : Int)) = decide (v.there i) := by
      rw [Bool.eq_iff_iff, decide_eq_true_eq, decide_eq_true_eq]
      exact ⟨fun h2 => ⟨h1, h2⟩, fun h2 => h2.2⟩
    rw [e]
    exact hK
  · rw [decide_eq_false (fun h2 : v.there i => h1 h2.1)] at hK
    exact hK
theorem rdown_c (h : RX w ow t b v) (hK : R (.returned (.bool v.down)) w) : GoC Tryz.prog F_ref03_Device_Down #[.pointer (some ⟨b, 0, none⟩)] w R := by
  obtain ⟨H, Q, ka, kc, kp, kt, ko, h⟩ := h
  refine S_ref03_Device_Down ?_
  exact ⟨_, cN h.hb rfl, hK⟩
theorem rcalls_c (h : RX w ow t b v) (hK : R (.returned (.int .i64 v.calls)) w) : GoC Tryz.prog F_ref03_Device_Calls #[.pointer (some ⟨b, 0, none⟩)] w R := by
  obtain ⟨H, Q, ka, kc, kp, kt, ko, h⟩ := h
  refine S_ref03_Device_Calls ?_
  exact ⟨_, cN h.hb rfl, hK⟩
theorem rup_c (h : RX w ow t b v) (hK : ∀ w' ow', RX w' ow' t b v.up → Fro (Td t) w ow w' ow' → R (.returned (.int .i64 0)) w') : GoC Tryz.prog F_ref03_Device_Up #[.pointer (some ⟨b, 0, none⟩)] w R := by
  obtain ⟨H, Q, ka, kc, kp, kt, ko, h⟩ := h
  refine S_ref03_Device_Up ?_
  unfold W_ref03_Device_Up
  refine NilF.intro rfl (stb (add1 b 2) h.hb h.bt (by simp [Dh.rs]) fun w1 hb1 f1 s1 => NilF.intro rfl (stb (add1 b 4) hb1 h.bt (by simp [Dh.rs]) fun w2 hb2 f2 s2 => ?_))
  have f := f1.trans f2
  have l2 := h.l.fr f (by omega) (by omega) (by omega)
  exact hK w2 ow ⟨H, Q, ka, kc, kp, kt, ko, ⟨l2.im, l2.pl, l2.pb, l2.qv, h.l.ok.up⟩, hb2, h.bt, h.ks.fr f (by omega), h.kl, fun hh => absurd rfl hh⟩ (f.mono fun u hu => hu.1)
theorem rown_c {a : Option Addr} {l c : Nat} {bs : List UInt8} (hr : Rd w a (bvs bs)) (hl : bs.length = l) (h0 : a = none → l = 0) (hb : l ≤ 140737488355328)
    (h : ∀ a' c' w', Sl w' T_uint8 1 a' l c' (bvs bs) → Kp no w w' → Fresh w a' → R (.returned (.slice a' l c')) w') : GoC Tryz.prog F_ref03_own #[.slice a l c] w R := by
  refine S_ref03_own ?_
  unfold W_ref03_own
  exact append_new er_u8 hr (by rw [bvs_len]; omega) h0 bvs_one (by omega) (by omega) fun a' c' w' hs k fr _ => ⟨_, _, _, rfl, h a' c' w' hs k fr⟩
theorem rimage_c (h : RX w ow t b v) (hK : ∀ a' c' w', Sl w' T_uint8 1 a' v.img.length c' (bvs v.img) → Kp no w w' → Fresh w a' → R (.returned (.slice a' v.img.length c')) w') : GoC Tryz.prog F_ref03_Device_Image #[.pointer (some ⟨b, 0, none⟩)] w R := by
  obtain ⟨H, Q, ka, kc, kp, kt, ko, h⟩ := h
  have hlen := h.l.ok.len
  have hn2 := h.l.ok.n2
  refine S_ref03_Device_Image ?_
  unfold W_ref03_Device_Image
  exact ⟨_, _, _, c0 h.hb rfl, rown_c h.l.im.sl.rd rfl (sl_some' h.l.im.sl) (by omega) fun a' c' w' hs k fr => ⟨_, _, _, rfl, hK a' c' w' hs k fr⟩⟩
end
section
variable {w : World} {ow : Nat → Nat} {t b kc : Nat} {H : Dh} {Q : List PD} {ka : Option Addr} {kp : List Nat} {kt ko : Int} {v : Dv}
theorem counted_c {R : Po} (h : RP w ow t b H Q ka kc kp kt ko v) (hK : ∀ w', RP w' ow t b H Q ka kc kp kt ko v.bump → Fro (fun u => u ≠ t) w ow w' ow → R (.returned (.bool (decide (v.step = 1)))) w') : GoC Tryz.prog F_ref03_Device_counted #[.pointer (some ⟨b, 0, none⟩)] w R := by
  refine S_ref03_Device_counted ?_
  unfold W_ref03_Device_counted
  have hst := h.l.ok.step
  have hke : v.bump.step ≠ 0 → kp = v.bump.keep ∧ kt = v.bump.torn ∧ ko = v.bump.off := fun hne => h.ke fun h0 => hne (by show (if v.step = 0 then (0 : Int) else v.step - 1) = 0; rw [if_pos h0])
  refine NilF.intro rfl ⟨v.calls, cN h.hb rfl, NilF.intro rfl (stb (add1 b 3) h.hb h.bt (by simp [Dh.rs]) fun w1 hb1 f1 s1 => ?_)⟩
  have l1 := h.l.fr f1 (by omega) (by omega) (by omega)
  have kp1 := h.ks.fr f1 (by omega)
  refine NilF.intro rfl ⟨v.step, cN hb1 rfl, cond_eq (fun h0 => ?_) (fun hne => NilF.intro rfl ⟨v.step, cN hb1 rfl, NilF.intro rfl (stb (add1 b 4) hb1 h.bt (by simp [Dh.rs]) fun w2 hb2 f2 s2 => NilF.intro rfl ⟨_, cN hb2 rfl, ?_⟩)⟩)⟩
  · have e : decide (v.step = 1) = false := decide_eq_false (by omega)
    have e2 : v.bump = { v with calls := IntKind.wrap .i64 (v.calls + 1), step := v.step } := by unfold Dv.bump; rw [if_pos h0, h0]
    have := hK w1 ⟨l1.bump, by rw [e2]; exact hb1, h.bt, kp1, h.kl, hke⟩ f1
    rw [e] at this
    exact this
  · have ew : IntKind.wrap .i64 (v.step - 1) = v.step - 1 := wrap_i64 (by omega) (by omega)
    rw [ew] at hb2 ⊢
    have e : (v.step - 1 == 0) = decide (v.step = 1) := by rw [Bool.eq_iff_iff, beq_iff_eq, decide_eq_true_eq]; omega
    have e2 : v.bump = { v with calls := IntKind.wrap .i64 (v.calls + 1), step := v.step - 1 } := by unfold Dv.bump; rw [if_neg hne]
    rw [e]
    exact hK w2 ⟨(l1.fr f2 (by omega) (by omega) (by omega)).bump, by rw [e2]; exact hb2, h.bt, kp1.fr f2 (by omega), h.kl, hke⟩ (f1.trans f2)
end
set_option maxRecDepth 100000 in
theorem lay_c {w : World} {ow : Nat → Nat} {t b n ic i sc : Nat} {ia sa : Option Addr} {img bs : List UInt8} {m : Int} {cs : Array Value} {X : TypeId} {R : Po} (him : SlT w ow T_uint8 1 ia (n * 512) ic (bvs img) (t + 1)) (hil : img.length = n * 512) (hn : n ≤ 8192) (hi : i < n) (hb : Blk w b cs X) (hbt : ow b ≠ t + 1) (hc : cs[0]? = some (.slice ia (n * 512) ic))
    (hs : SlT w ow T_uint8 1 sa bs.length sc (bvs bs) (t + 3)) (hbl : bs.length = 512) (hm : 0 ≤ m)
    (hK : ∀ w' ow', SlT w' ow' T_uint8 1 ia (n * 512) ic (bvs (ovr img (i * 512) (bs.take m.toNat))) (t + 1) → Fro (fun u => u ≠ t + 1) w ow w' ow' → R (.returned (.tuple #[])) w') :
    GoC Tryz.prog F_ref03_Device_lay #[.pointer (some ⟨b, 0, none⟩), .agg #[.int .i64 (i : Int), .slice sa bs.length sc], .int .i64 m] w R := by
  refine S_ref03_Device_lay ?_
  unfold W_ref03_Device_lay
  refine AlF.intro fun b1 w1 hb1e hb1 k1 s1 => ?_
  have f1 : Fro (fun _ => True) w ow w1 (ext ow w.heap.size (t + 3)) := Fro.of_kp0 (t + 3) k1
  have ht1 : ext ow w.heap.size (t + 3) b1 = t + 3 := ext_new (by omega)
  have him1 := him.fr f1 trivial
  have hs1 := hs.fr f1 trivial
  obtain ⟨hbb1, hbt1⟩ := blk_fr hb rfl f1 trivial
  generalize ext ow w.heap.size (t + 3) = ow1 at *
  refine loopN (fun s w' => ∃ k : Nat, s.1 = (k : Int) ∧ k ≤ 512 ∧ (k : Int) ≤ m ∧ SlT w' ow1 T_uint8 1 ia (n * 512) ic (bvs (ovr img (i * 512) (bs.take k))) (t + 1) ∧ Fro (fun u => u ≠ t + 1) w1 ow1 w' ow1) (fun s _ => 512 - s.1.toNat)
    ⟨0, rfl, by omega, by omega, by simpa [ovr_nil] using him1, ⟨Kp.refl _ _, fun _ _ _ => rfl⟩⟩ ?_
  rintro ⟨k0, u⟩ w2 ⟨k, hk0, hk, hkm, him2, f2⟩ _
  dsimp only at hk0 ⊢
  subst hk0
  have fin : bs.take m.toNat = bs.take k → R (.returned (.tuple #[])) w2 := fun e => hK w2 ow1 (by rw [e]; exact him2) ((f1.mono fun _ _ => trivial).trans f2)
  refine cond_d (fun hlt => cond_d (fun hlt2 => ?_) (fun hge => ?_)) (fun hge => ?_)
  · have kd : Kp no w2 w2.drew := Kp.drew w2 1
    have fd : Fro (fun _ => True) w2 ow1 w2.drew ow1 := Fro.kp0 kd
    have hkw : IntKind.wrap .i64 ((k : Int) + 1) = ((k + 1 : Nat) : Int) := by rw [wrap_i64 (by omega) (by omega)]; omega
    have e1 : IntKind.wrap .i64 ((i : Int) * 512) = ((i * 512 : Nat) : Int) := by rw [wrap_i64 (by omega) (by omega)]; omega
    have e2 : IntKind.wrap .i64 (((i * 512 : Nat) : Int) + (k : Int)) = ((i * 512 + k : Nat) : Int) := by rw [wrap_i64 (by omega) (by omega)]; omega
    rw [hkw]
    have hbb2 := (blk_fr hbb1 rfl f2 (by rw [hbt1]; exact hbt)).1
    have hb12 := (blk_fr hb1 ht1 f2 (by omega)).1
    have hs2 := hs1.fr f2 (by omega)
    have hkb : k < bs.length := by omega
    obtain ⟨b', o', hsa, hcell⟩ := (hs2.sl.rd.kp0 kd) k _ (bvs_get hkb)
    refine NilF.intro rfl ⟨_, _, _, c0 (kd.blk hbb2 id) hc, (i : Int), c0 (kd.blk hb12 id) rfl, _, _, _, cN (kd.blk hb12 id) rfl, by omega, by omega, _, hsa, ((bs[k]).toNat : Int), by rw [Int.toNat_natCast, add_at]; exact hcell, ?_⟩
    rw [e1, e2]
    obtain ⟨bi, cur, hia, _⟩ := him2.sl.addr (by omega)
    refine ⟨by omega, by omega, _, hia, ?_⟩
    refine slt_put (him2.fr fd trivial) hia (i := i * 512 + k) (by omega) (by rw [Int.toNat_natCast, add_at]) fun w3 him3 f3 => ?_
    have e3 : (Value.int .u8 ((bs[k]).toNat : Int)) = bv bs[k] := rfl
    have e4 : (bs.take k).length = k := by rw [List.length_take]; omega
    have e5 := ovr_set (l := img) (x := bs.take k) (i := i * 512) (c := bs[k]) (by rw [e4, hil]; omega)
    rw [e4] at e5
    rw [e3, bvs_set, e5, ← take_snoc_get bs k hkb] at him3
    exact ⟨⟨k + 1, rfl, by omega, by omega, him3, (f2.trans (fd.mono fun _ _ => trivial)).trans f3⟩, by simp only [Int.toNat_natCast]; omega⟩
  · refine fin ?_
    rw [List.take_of_length_le (by omega), List.take_of_length_le (by omega)]
  · refine fin ?_
    congr 1
    omega
structure MdQ (w : World) (ow : Nat → Nat) (t b : Nat) (H : Dh) (Q : List PD) (n : Nat) (img : List UInt8) (cs : Array Value) : Prop where
  im : SlT w ow T_uint8 1 H.ia (n * 512) H.ic (bvs img) (t + 1)
  pl : SlT w ow T_api_Pending 2 H.pa Q.length H.pc (fP Q) (t + 2)
  pb : ∀ x ∈ Q, SlT w ow T_uint8 1 x.a x.bs.length x.c (bvs x.bs) (t + 3)
  hb : Blk w b cs T_quotaref03_Device
  bt : ow b = t
  c0 : cs[0]? = some (.slice H.ia (n * 512) H.ic)
  c1 : cs[1]? = some (.slice H.pa Q.length H.pc)
  il : img.length = n * 512
  ok : ∀ x ∈ Q, 0 ≤ x.sec ∧ x.sec < (n : Int) ∧ x.bs.length = 512
  n2 : n ≤ 8192
theorem MdQ.fr {T : Nat → Prop} {w w' : World} {ow ow' : Nat → Nat} {t b n : Nat} {H : Dh} {Q : List PD} {img : List UInt8} {cs : Array Value} (h : MdQ w ow t b H Q n img cs) (f : Fro T w ow w' ow') (h0 : T t) (h1 : T (t + 1)) (h2 : T (t + 2)) (h3 : T (t + 3)) : MdQ w' ow' t b H Q n img cs :=
  ⟨h.im.fr f h1, h.pl.fr f h2, fun x hx => (h.pb x hx).fr f h3, (blk_fr h.hb h.bt f h0).1, (blk_fr h.hb h.bt f h0).2, h.c0, h.c1, h.il, h.ok, h.n2⟩
theorem RP.md {w : World} {ow : Nat → Nat} {t b kc : Nat} {H : Dh} {Q : List PD} {ka : Option Addr} {kp : List Nat} {kt ko : Int} {v : Dv} (h : RP w ow t b H Q ka kc kp kt ko v) : MdQ w ow t b H Q v.n v.img (H.rs Q.length v.img.length v.down v.calls v.step ka kp.length kc kt ko) := by
  have hlen := h.l.ok.len
  refine ⟨by rw [← hlen]; exact h.l.im, h.l.pl, h.l.pb, h.hb, h.bt, by rw [← hlen]; rfl, rfl, hlen, fun x hx => ?_, h.l.ok.n2⟩
  exact h.l.ok.q x.v (by rw [h.l.qv]; exact List.mem_map_of_mem hx)
theorem lay_q {w : World} {ow : Nat → Nat} {t b n k : Nat} {H : Dh} {Q : List PD} {img : List UInt8} {cs : Array Value} (h : MdQ w ow t b H Q n img cs) (hk : k < Q.length) {m : Int} (hm : 0 ≤ m) {K : World → Prop} {R : Po}
    (hK : ∀ w' ow', MdQ w' ow' t b H Q n (ovr img ((Q[k]).sec.toNat * 512) ((Q[k]).bs.take m.toNat)) cs → Fro (fun u => u ≠ t + 1) w ow w' ow' → K w') :
    ∃ (a4 : Option Addr) (l4 c4 : Nat), w.cell? (Addr.add ⟨b, 0, none⟩ 1) = some (.slice a4 l4 c4) ∧ (IdxF a4 (k : Int) l4 fun d3 => (∃ (n7 : Int) (a5 : Option Addr) (l5 c5 : Nat), (w.cell? (d3.add (Int.toNat (k : Int) * 2)) = some (.int .i64 n7) ∧ w.cell? (Addr.add (d3.add (Int.toNat (k : Int) * 2)) 1) = some (.slice a5 l5 c5) ∧ True) ∧ (CallF Tryz.prog F_ref03_Device_lay #[(.pointer (some ⟨b, 0, none⟩)), (.agg #[(.int .i64 n7), (.slice a5 l5 c5)]), (.int .i64 m)] w (fun r2 w4 => r2 = (.tuple #[]) ∧ (K w4)) (PanF R)))) := by
  have hx := h.ok _ (List.getElem_mem hk)
  have hpb := h.pb _ (List.getElem_mem hk)
  refine ⟨_, _, _, cN h.hb h.c1, pdI h.pl.sl.rd hk rfl rfl ?_⟩
  have hsec : (Q[k]).sec = (((Q[k]).sec.toNat : Nat) : Int) := by omega
  have hle : ((Q[k]).bs.take m.toNat).length ≤ 512 := by rw [List.length_take]; omega
  have hg : GoC Tryz.prog F_ref03_Device_lay #[.pointer (some ⟨b, 0, none⟩), .agg #[.int .i64 (((Q[k]).sec.toNat : Nat) : Int), .slice (Q[k]).a (Q[k]).bs.length (Q[k]).c], .int .i64 m] w fun e w' => match e with | .returned v => v = (.tuple #[]) ∧ K w' | .panicked ch => PanF R ch w' | .outgrown => False :=
    lay_c h.im h.il h.n2 (by omega) h.hb (by rw [h.bt]; omega) h.c0 hpb hx.2.2 hm fun w' ow' him f => ⟨rfl, hK w' ow' (by
      have hh := blk_fr h.hb h.bt f (by omega)
      exact ⟨him, h.pl.fr f (by omega), fun x hx => (h.pb x hx).fr f (by omega), hh.1, hh.2, h.c0, h.c1, by rw [ovr_len (by rw [h.il]; omega)]; exact h.il, h.ok, h.n2⟩) f⟩
  rw [← hsec] at hg
  exact hg
theorem take_clamp (bs : List UInt8) (hb : bs.length = 512) (off : Int) : bs.take (if (0 : Int) > off then (0 : Int) else off).toNat = bs.take (clampN off) := by
  unfold clampN
  split
  · rw [show off.toNat = 0 by omega]; rfl
  · by_cases h : off.toNat ≤ 512
    · rw [Nat.min_eq_left h]
    · rw [Nat.min_eq_right (by omega), List.take_of_length_le (by omega), List.take_of_length_le (by omega)]
set_option maxRecDepth 100000 in
theorem rfall_c {w : World} {ow : Nat → Nat} {t b kc lc : Nat} {H : Dh} {Q : List PD} {ka la : Option Addr} {kp : List Nat} {kt ko : Int} {v : Dv} {keep : List Nat} {torn off : Int} {R : Po} (h : RP w ow t b H Q ka kc kp kt ko v) (hl : Ls w ow t la keep) (hq : Q.length ≤ 1000000)
    (hK : ∀ w' ow', RX w' ow' t b (v.fall keep torn off) → Fro (fun u => u ≠ t ∧ u ≠ t + 1) w ow w' ow' → R (.returned (.tuple #[])) w') :
    GoC Tryz.prog F_ref03_Device_fall #[.pointer (some ⟨b, 0, none⟩), .agg #[.slice la keep.length lc, .int .i64 torn, .int .i64 off]] w R := by
  refine S_ref03_Device_fall ?_
  unfold W_ref03_Device_fall
  have hok := h.l.ok
  have hn2 := hok.n2
  have hlen := hok.len
  refine AlF.intro fun b1 w1 hb1e hb1 k1 s1 => ?_
  have f1 : Fro (fun _ => True) w ow w1 (ext ow w.heap.size (t + 3)) := Fro.of_kp0 (t + 3) k1
  have ht1 : ext ow w.heap.size (t + 3) b1 = t + 3 := ext_new (by omega)
  have h1 := h.fr f1 trivial trivial trivial trivial
  have hl1 := hl.fr f1 fun _ _ => trivial
  generalize ext ow w.heap.size (t + 3) = ow1 at *
  have hM1 := h1.md
  have hcsz : (H.rs Q.length v.img.length v.down v.calls v.step ka kp.length kc kt ko).size = 8 := rfl
  generalize hcE : H.rs Q.length v.img.length v.down v.calls v.step ka kp.length kc kt ko = cs at *
  have hfin : ((cs.setIfInBounds 1 (.slice none 0 0)).setIfInBounds 2 (.bool true)).setIfInBounds 4 (.int .i64 0) = (⟨H.ia, H.ic, none, 0⟩ : Dh).rs 0 v.img.length true v.calls 0 ka kp.length kc kt ko := by rw [← hcE]; rfl
  have hQv : ∀ k (hk : k < Q.length), v.q[k]? = some ((Q[k]).sec, (Q[k]).bs) := fun k hk => by rw [h.l.qv]; simp [hk, PD.v]
  have hql : v.q.length = Q.length := by rw [h.l.qv]; simp
  refine loopN (fun s w' => ∃ (k : Nat) (ow' : Nat → Nat) (img : List UInt8), s.1 = (k : Int) ∧ k ≤ Q.length ∧ fallL keep torn off k (v.q.drop k) img = fallL keep torn off 0 v.q v.img ∧ MdQ w' ow' t b H Q v.n img cs ∧ Fro (fun u => u ≠ t + 1) w1 ow1 w' ow') (fun s _ => Q.length - s.1.toNat)
    ⟨0, ow1, v.img, rfl, by omega, by simp, hM1, ⟨Kp.refl _ _, fun _ _ _ => rfl⟩⟩ ?_
  rintro ⟨k0, u⟩ w2 ⟨k, ow2, img, hk0, hk, hfl, hM, f2⟩ _
  dsimp only at hk0 ⊢
  subst hk0
  refine NilF.intro rfl ⟨_, _, _, cN hM.hb hM.c1, cond_d (fun hlt => ?_) (fun hge => ?_)⟩
  · have hkl : k < Q.length := by omega
    have hkw : IntKind.wrap .i64 ((k : Int) + 1) = ((k + 1 : Nat) : Int) := by rw [wrap_i64 (by omega) (by omega)]; omega
    rw [hkw]
    obtain ⟨hb12, ht12⟩ := blk_fr hb1 ht1 f2 (by omega)
    have hx := hM.ok _ (List.getElem_mem hkl)
    have hst := fallL_step keep torn off v.q k img (by omega)
    have hvk : v.q[k]'(by omega) = ((Q[k]).sec, (Q[k]).bs) := by have := hQv k hkl; rw [List.getElem?_eq_getElem (by omega)] at this; exact Option.some.inj this
    rw [hvk] at hst
    dsimp only at hst
    have hrd2 := (hl1.fr f2 fun u hu => hu.2.1).rd.rd
    have go : ∀ (m : Int) (w6 : World), 0 ≤ m → Kp no w2 w6 → fallL keep torn off (k + 1) (v.q.drop (k + 1)) (ovr img ((Q[k]).sec.toNat * 512) ((Q[k]).bs.take m.toNat)) = fallL keep torn off 0 v.q v.img → ∀ {K : World → Prop},
        (∀ w', ((∃ (k' : Nat) (ow' : Nat → Nat) (img : List UInt8), ((k + 1 : Nat) : Int) = (k' : Int) ∧ k' ≤ Q.length ∧ fallL keep torn off k' (v.q.drop k') img = fallL keep torn off 0 v.q v.img ∧ MdQ w' ow' t b H Q v.n img cs ∧ Fro (fun u => u ≠ t + 1) w1 ow1 w' ow') ∧ Q.length - Int.toNat ((k + 1 : Nat) : Int) < Q.length - Int.toNat (k : Int)) → K w') →
        NilF (some (⟨b, 0, none⟩ : Addr)) fun d2 => ∃ (a4 : Option Addr) (l4 c4 : Nat), w6.cell? (Addr.add d2 1) = some (.slice a4 l4 c4) ∧ (IdxF a4 (k : Int) l4 fun d3 => (∃ (n7 : Int) (a5 : Option Addr) (l5 c5 : Nat), (w6.cell? (d3.add (Int.toNat (k : Int) * 2)) = some (.int .i64 n7) ∧ w6.cell? (Addr.add (d3.add (Int.toNat (k : Int) * 2)) 1) = some (.slice a5 l5 c5) ∧ True) ∧ (CallF Tryz.prog F_ref03_Device_lay #[(.pointer (some ⟨b, 0, none⟩)), (.agg #[(.int .i64 n7), (.slice a5 l5 c5)]), (.int .i64 m)] w6 (fun r2 w4 => r2 = (.tuple #[]) ∧ (K w4)) (PanF R)))) := fun m w6 hm k6 he K hK' =>
      NilF.intro rfl (lay_q (hM.fr (Fro.kp0 k6) trivial trivial trivial trivial) hkl hm fun w' ow' hM' f' => hK' w' ⟨⟨k + 1, ow', _, rfl, by omega, he, hM', (f2.trans ((Fro.kp0 k6).mono fun _ _ => trivial)).trans f'⟩, by simp only [Int.toNat_natCast]; omega⟩)
    have t512 : (Q[k]).bs.take (512 : Int).toNat = (Q[k]).bs := List.take_of_length_le (by rw [hx.2.2]; decide)
    have t0 : (Q[k]).bs.take (0 : Int).toNat = [] := rfl
    refine ⟨torn, cN hb12 rfl, cond_eq (fun hte => ⟨off, cN hb12 rfl, ?_⟩) (fun htn => ?_)⟩
    · refine ⟨_, _, _, _, _, ⟨c0 hb12 rfl, cN hb12 rfl, cN hb12 rfl, trivial⟩, Kept_c hrd2 hl.lt (by have := hl.ln; omega) (by omega) fun w3 k3 => ⟨_, rfl, cond_b (fun hkt => ?_) (fun hkf => ?_)⟩⟩
      · rw [if_pos hkt] at hst
        exact go 512 w3 (by decide) k3 (by rw [t512, ← hst]; exact hfl) fun w' hh => hh
      · rw [hkf, if_neg (by decide), if_pos hte] at hst
        exact go _ w3 (by split <;> omega) k3 (by rw [take_clamp _ hx.2.2, ← hst]; exact hfl) fun w' hh => hh
    · refine ⟨_, _, _, _, _, ⟨c0 hb12 rfl, cN hb12 rfl, cN hb12 rfl, trivial⟩, Kept_c hrd2 hl.lt (by have := hl.ln; omega) (by omega) fun w3 k3 => ⟨_, rfl, cond_b (fun hkt => ?_) (fun hkf => ?_)⟩⟩
      · rw [if_pos hkt] at hst
        exact go 512 w3 (by decide) k3 (by rw [t512, ← hst]; exact hfl) fun w' hh => hh
      · rw [hkf, if_neg (by decide), if_neg htn] at hst
        exact go 0 w3 (by decide) k3 (by rw [t0, ovr_nil, ← hst]; exact hfl) fun w' hh => hh
  · have hke : k = Q.length := by omega
    subst hke
    rw [List.drop_eq_nil_of_le (by omega), fallL] at hfl
    refine NilF.intro rfl (stb (add1 b 1) hM.hb hM.bt (by rw [hcsz]; decide) fun w11 hb11 f11 s11 => NilF.intro rfl (stb (add1 b 2) hb11 hM.bt (by simp [hcsz]) fun w12 hb12 f12 s12 => NilF.intro rfl (stb (add1 b 4) hb12 hM.bt (by simp [hcsz]) fun w13 hb13 f13 s13 => ?_)))
    have ff := (f11.trans f12).trans f13
    have hfo := hok.fall keep torn off
    rw [hfin] at hb13
    have hlen' : (fallL keep torn off 0 v.q v.img).length = v.img.length := by rw [← hfl, hM.il, hlen]
    refine hK w13 ow2 ⟨⟨H.ia, H.ic, none, 0⟩, [], ka, kc, kp, kt, ko, ⟨?_, slt_nil _ _ _ _ _, fun x hx => absurd hx (by simp), rfl, hfo⟩, ?_, hM.bt, (h1.ks.fr f2 (by omega)).fr ff (by omega), h.kl, fun hh => absurd rfl hh⟩ (((f1.mono fun _ _ => trivial).trans (f2.mono fun u hu => hu.2)).trans (ff.mono fun u hu => hu.1))
    · show SlT w13 ow2 T_uint8 1 H.ia (fallL keep torn off 0 v.q v.img).length H.ic (bvs (fallL keep torn off 0 v.q v.img)) (t + 1)
      rw [← hfl, hM.il]
      exact hM.im.fr ff (by omega)
    · show Blk w13 b ((⟨H.ia, H.ic, none, 0⟩ : Dh).rs 0 (fallL keep torn off 0 v.q v.img).length true v.calls 0 ka kp.length kc kt ko) T_quotaref03_Device
      rw [hlen']
      exact hb13
section
variable {w : World} {ow : Nat → Nat} {t b : Nat} {v : Dv} {R : Po}
theorem rkp_ls {kc : Nat} {H : Dh} {Q : List PD} {ka : Option Addr} {kp : List Nat} {kt ko : Int} (h : RP w ow t b H Q ka kc kp kt ko v) (hln : kp.length * 8 ≤ 140737488355328) : Ls w ow t ka kp :=
  ⟨h.ks.rdT.mono fun u hu => ⟨by omega, by omega, by omega⟩, h.kl, hln, fun h0 => by have := h.ks.sl; rw [h0] at this; exact (this.zero).1⟩
theorem pdA {a : Option Addr} {Q : List PD} (h : Rd w a (fP Q)) {i : Nat} (hi : i < Q.length) : ∃ b o, a = some ⟨b, o, none⟩ ∧ w.cell? ((⟨b, o, none⟩ : Addr).add (i * 2)) = some (.int .i64 (Q[i]).sec) ∧ w.cell? (Addr.add ((⟨b, o, none⟩ : Addr).add (i * 2)) 1) = some (.slice (Q[i]).a (Q[i]).bs.length (Q[i]).c) := by
  have h0 : (fP Q)[i * 2 + 0]? = some (.int .i64 (Q[i]).sec) := by unfold fP; rw [flatV_get PD.cs_len Q i hi 0 (by omega)]; rfl
  have h1 : (fP Q)[i * 2 + 1]? = some (.slice (Q[i]).a (Q[i]).bs.length (Q[i]).c) := by unfold fP; rw [flatV_get PD.cs_len Q i hi 1 (by omega)]; rfl
  obtain ⟨b, o, ha, c0⟩ := h _ _ h0
  obtain ⟨b', o', ha', c1⟩ := h _ _ h1
  rw [ha] at ha'
  cases ha'
  exact ⟨b, o, ha, by rw [add_at]; exact c0, by rw [add_at, add_at, Nat.add_assoc]; exact c1⟩
theorem rcrash_c {la : Option Addr} {lc : Nat} {keep : List Nat} {torn off : Int} (h : RX w ow t b v) (hl : Ls w ow t la keep) (hq : v.q.length ≤ 1000000)
    (hK : ∀ w' ow', RX w' ow' t b (v.crash keep torn off).2 → Fro (Td t) w ow w' ow' → R (.returned (.int .i64 ((v.crash keep torn off).1 : Int))) w') :
    GoC Tryz.prog F_ref03_Device_Crash #[.pointer (some ⟨b, 0, none⟩), .agg #[.slice la keep.length lc, .int .i64 torn, .int .i64 off]] w R := by
  obtain ⟨H, Q, ka, kc, kp, kt, ko, h⟩ := h
  refine S_ref03_Device_Crash ?_
  unfold W_ref03_Device_Crash
  refine AlF.intro fun b1 w1 hb1e hb1 k1 s1 => ?_
  have f1 : Fro (fun _ => True) w ow w1 (ext ow w.heap.size (t + 3)) := Fro.of_kp0 (t + 3) k1
  have h1 := h.fr f1 trivial trivial trivial trivial
  have hl1 := hl.fr f1 fun _ _ => trivial
  refine NilF.intro rfl ⟨v.down, cN h1.hb rfl, cond_b (fun hd => ?_) (fun hd => ?_)⟩
  · have e : v.crash keep torn off = (40, v) := by unfold Dv.crash; rw [if_pos hd]
    have := hK w1 _ (by rw [e]; exact ⟨H, Q, ka, kc, kp, kt, ko, h1⟩) (f1.mono fun _ _ => trivial)
    rw [e] at this
    exact this
  · have e : v.crash keep torn off = (0, v.fall keep torn off) := by unfold Dv.crash; rw [hd, if_neg (by decide)]
    refine ⟨_, _, _, _, _, ⟨c0 hb1 rfl, cN hb1 rfl, cN hb1 rfl, trivial⟩, rfall_c h1 hl1 (by have := h.l.qv; rw [this] at hq; simpa using hq) fun w' ow' h' f' => ⟨rfl, ?_⟩⟩
    have := hK w' ow' (by rw [e]; exact h') ((f1.mono fun _ _ => trivial).trans (f'.mono fun u hu => ⟨hu.1, hu.2.1⟩))
    rw [e] at this
    exact this
theorem rarm_c {step : Int} {la : Option Addr} {lc : Nat} {keep : List Nat} {torn off : Int} (h : RX w ow t b v) (hl : Ls w ow t la keep) (hs : step ≤ 9223372036854775807)
    (hK : ∀ w' ow', RX w' ow' t b (v.arm step keep torn off).2 → Fro (Td t) w ow w' ow' → R (.returned (.int .i64 ((v.arm step keep torn off).1 : Int))) w') :
    GoC Tryz.prog F_ref03_Device_Arm #[.pointer (some ⟨b, 0, none⟩), .int .i64 step, .agg #[.slice la keep.length lc, .int .i64 torn, .int .i64 off]] w R := by
  obtain ⟨H, Q, ka, kc, kp, kt, ko, h⟩ := h
  refine S_ref03_Device_Arm ?_
  unfold W_ref03_Device_Arm
  refine AlF.intro fun b1 w1 hb1e hb1 k1 s1 => ?_
  have f1 : Fro (fun _ => True) w ow w1 (ext ow w.heap.size (t + 3)) := Fro.of_kp0 (t + 3) k1
  have ht1 : ext ow w.heap.size (t + 3) b1 = t + 3 := ext_new (by omega)
  have h1 := h.fr f1 trivial trivial trivial trivial
  have hl1 := hl.fr f1 fun _ _ => trivial
  generalize ext ow w.heap.size (t + 3) = ow1 at *
  have same : ∀ n, v.arm step keep torn off = (n, v) → R (.returned (.int .i64 (n : Int))) w1 := fun n e => by
    have := hK w1 ow1 (by rw [e]; exact ⟨H, Q, ka, kc, kp, kt, ko, h1⟩) (f1.mono fun _ _ => trivial)
    rw [e] at this
    exact this
  refine NilF.intro rfl ⟨v.down, cN h1.hb rfl, cond_b (fun hd => ?_) (fun hd => cond_d (fun hneg => ?_) (fun hnn => ?_))⟩
  · exact same 40 (by unfold Dv.arm; rw [if_pos hd])
  · exact same 4 (by unfold Dv.arm; rw [hd, if_neg (by decide), if_pos hneg])
  have e : v.arm step keep torn off = (0, { v with step := step, keep := keep, torn := torn, off := off }) := by unfold Dv.arm; rw [hd, if_neg (by decide), if_neg hnn]
  refine NilF.intro rfl (stb (add1 b 4) h1.hb h1.bt (by simp [Dh.rs]) fun w2 hb2 f2 s2 => ?_)
  have kd : Kp no w2 w2.drew := Kp.drew w2 1
  have hb12 := f2.kp.blk hb1 (fun hn => hn (by rw [ht1]; omega))
  have nb1 : ¬ b1 = b := fun hh => by have := h1.bt; rw [← hh] at this; omega
  have hr2 := (hl1.fr f2 fun u hu => hu.1).rd.rd
  refine ⟨fun w' => Kp (fun k => k = b) w2 w', kd.of_no, _, _, _, fun w' kz => c0 (kz.blk hb12 nb1) rfl, _, fun w' kz => cN (kz.blk hb12 nb1) rfl, _, fun w' kz => cN (kz.blk hb12 nb1) rfl, ?_⟩
  refine append_new er_u64 (hr2.kp0 kd) (by simp) hl.nn (u64_one keep) (by have := hl.ln; omega) (by have := hl.ln; omega) fun a3 c3 w3 hsl3 k3 fr3 _ => ⟨_, _, _, rfl, (kd.trans0 k3).of_no, ?_⟩
  have k23 := kd.trans0 k3
  have f3 : Fro (fun _ => True) w2 ow1 w3 (ext ow1 w2.heap.size (t + 3)) := Fro.of_kp0 (t + 3) k23
  have hb3 := k23.blk hb2 id
  have hbt3 : ext ow1 w2.heap.size (t + 3) b = t := by rw [ext_old hb2.lt]; exact h1.bt
  have hk3 : SlT w3 (ext ow1 w2.heap.size (t + 3)) T_uint64 1 a3 keep.length c3 (keep.map u64v) (t + 3) := ⟨hsl3, fun j hj => ext_new (fr3 j hj)⟩
  have l3 := ((h1.l.fr f2 (by omega) (by omega) (by omega)).fr f3 trivial trivial trivial)
  refine NilF.intro rfl (StF.at (add1 b 5) hb3 (by simp [Dh.rs]) fun w4 hb4 k4 s4 => StF.at (add2 b 5 1) hb4 (by simp [Dh.rs]) fun w5 hb5 k5 s5 => StF.at (add2 b 5 2) hb5 (by simp [Dh.rs]) fun w6 hb6 k6 s6 => ?_)
  have k36 := (k4.trans0 k5).trans0 k6
  have f6 : Fro (fun u => u ≠ t) w3 (ext ow1 w2.heap.size (t + 3)) w6 (ext ow1 w2.heap.size (t + 3)) := Fro.of_kp' k36 fun b' _ hb' hne => hne (by rw [hb']; exact hbt3)
  have l6 := l3.fr f6 (by omega) (by omega) (by omega)
  refine ⟨k23.of_no.trans0 k36, ?_⟩
  have := hK w6 (ext ow1 w2.heap.size (t + 3)) (by
    rw [e]
    refine ⟨H, Q, a3, c3, keep, torn, off, ⟨l6.im, l6.pl, l6.pb, l6.qv, ?_⟩, hb6, hbt3, hk3.fr f6 (by omega), hl.lt, fun _ => ⟨rfl, rfl, rfl⟩⟩
    have := h.l.ok.arm torn off hs hl.lt (step := step) (keep := keep)
    rw [e] at this
    exact this) ((((f1.mono fun _ _ => trivial).trans (f2.mono fun u hu => hu.1)).trans (f3.mono fun _ _ => trivial)).trans (f6.mono fun u hu => hu.1))
  rw [e] at this
  exact this
theorem rdev_new {w1 w2 : World} {b1 ic : Nat} {ia : Option Addr} {img : List UInt8} (k1 : Kp no w w1) (him : Sl w1 T_uint8 1 ia img.length ic (bvs img)) (fr : Fresh w ia) (hok : (Dv.load img).Ok) (hb : Blk w2 b1 #[.slice ia img.length ic, .slice none 0 0, .bool false, .int .i64 0, .int .i64 0, .slice none 0 0, .int .i64 0, .int .i64 0] T_quotaref03_Device) (k2 : Kp no w1 w2) (hbe : b1 = w1.heap.size) (t : Nat) :
    ∃ ow', RX w2 ow' t b1 (Dv.load img) ∧ ∀ j, j < w.heap.size → ow' j = ow j := by
  have sz := k1.size
  refine ⟨tag (Is ia) (t + 1) (ext ow w.heap.size t), ⟨⟨ia, ic, none, 0⟩, [], none, 0, [], 0, 0, ⟨⟨him.kp0 k2, fun j hj => tag_in hj⟩, slt_nil _ _ _ _ _, fun x hx => absurd hx (by simp), rfl, hok⟩, hb, ?_, slt_nil _ _ _ _ _, fun x hx => absurd hx (by simp), fun hh => absurd rfl hh⟩, fun j hj => ?_⟩
  · rw [tag_out fun hh => by have := him.lt b1 hh; omega, ext_new (by omega)]
  · rw [tag_out fun hh => by have := fr j hh; omega, ext_old hj]
theorem rnew_c {n : Nat} (h1 : 1 ≤ n) (h2 : n ≤ 8192) (t : Nat) (hK : ∀ b w' ow', RX w' ow' t b (Dv.new n) → Kp no w w' → (∀ j, j < w.heap.size → ow' j = ow j) → w.heap.size ≤ b → R (.returned (.tuple #[.pointer (some ⟨b, 0, none⟩), .int .i64 0])) w') : GoC Tryz.prog F_ref03_New #[.int .i64 (n : Int)] w R := by
  refine S_ref03_New ?_
  unfold W_ref03_New
  refine cond_f (decide_eq_false (by omega)) (cond_f (decide_eq_false (by omega)) ?_)
  have e : IntKind.wrap .i64 ((n : Int) * 512) = ((n * 512 : Nat) : Int) := by rw [wrap_i64 (by omega) (by omega)]; omega
  rw [e]
  refine make_u8 (n := n * 512) (by omega) fun bi w1 cur hbi hcur k1 hbe => ⟨_, _, _, rfl, AlF.intro fun b1 w2 hb1e hb1 k2 s2 => ?_⟩
  have hl : (List.replicate (n * 512) (0 : UInt8)).length = n * 512 := List.length_replicate
  have him : Sl w1 T_uint8 1 (some ⟨bi, 0, none⟩) (List.replicate (n * 512) (0 : UInt8)).length (n * 512) (bvs (List.replicate (n * 512) (0 : UInt8))) := by
    refine ⟨by rw [bvs_len]; omega, by omega, .inr ⟨bi, cur, rfl, hbi, ?_, ?_⟩⟩
    · have := congrArg List.length hcur
      rw [bvs_len, hl] at this
      simpa using this
    · rw [hcur, List.take_of_length_le (by rw [bvs_len]; omega)]
  obtain ⟨ow', hd, ho⟩ := rdev_new (ow := ow) (img := List.replicate (n * 512) 0) (b1 := b1) (w2 := w2) k1 him (fun k hk => by obtain ⟨_, he, rfl⟩ := hk; cases he; show w.heap.size ≤ bi; omega) (Dv.Ok.load hl h1 h2) (by rw [hl]; exact hb1) k2 hb1e t
  exact hK b1 w2 ow' hd (k1.trans0 k2) ho (by have := k1.size; omega)
theorem readL_step (i : Int) (q : List (Int × List UInt8)) (k : Nat) (bs : List UInt8) (hk : k < q.length) : readL i (q.drop k) bs = readL i (q.drop (k + 1)) (if (q[k]).1 = i then (q[k]).2 else bs) := by
  rw [List.drop_eq_getElem_cons hk, readL]
set_option maxRecDepth 100000 in
theorem rread_c {i : Int} (h : RX w ow t b v) (hq : v.q.length ≤ 1000000)
    (hK : ∀ a' l' c' w', Kp no w w' → Sl w' T_uint8 1 a' l' c' (bvs (v.read i).1) → Fresh w a' → R (.returned (.tuple #[.slice a' l' c', .int .i64 ((v.read i).2 : Int)])) w') :
    GoC Tryz.prog F_ref03_Device_Read #[.pointer (some ⟨b, 0, none⟩), .int .i64 i] w R := by
  have hX := h
  obtain ⟨H, Q, ka, kc, kp, kt, ko, h⟩ := h
  have hok := h.l.ok
  have hlen := hok.len
  have hn2 := hok.n2
  have hql : v.q.length = Q.length := by rw [h.l.qv]; simp
  have nil_ : ∀ n, v.read i = ([], n) → R (.returned (.tuple #[.slice none 0 0, .int .i64 (n : Int)])) w := fun n e => by
    have := hK none 0 0 w (Kp.refl _ _) (by rw [e]; exact Sl.nil _ _ _) (fun k hk => (is_none hk).elim)
    rw [e] at this
    exact this
  refine S_ref03_Device_Read ?_
  unfold W_ref03_Device_Read
  refine NilF.intro rfl ⟨v.down, cN h.hb rfl, cond_b (fun hd => nil_ 40 (by unfold Dv.read; rw [if_pos hd])) (fun hd => ?_)⟩
  refine rthere_c hX ⟨_, rfl, cond_not (cond_d (fun hth => ?_) (fun hth => nil_ 41 (by unfold Dv.read; rw [hd, if_neg (by decide), if_pos hth])))⟩
  have hth1 := hth.1
  have hth2 := hth.2
  obtain ⟨I, rfl⟩ : ∃ I : Nat, i = (I : Int) := ⟨i.toNat, by omega⟩
  have e : v.read (I : Int) = (readL (I : Int) v.q (v.sect I), 0) := by unfold Dv.read; rw [hd, if_neg (by decide), if_neg (by simpa using hth), Int.toNat_natCast]
  have e1 : IntKind.wrap .i64 ((I : Int) * 512) = ((I * 512 : Nat) : Int) := by rw [wrap_i64 (by omega) (by omega)]; omega
  have e2 : IntKind.wrap .i64 (((I * 512 : Nat) : Int) + 512) = ((I * 512 + 512 : Nat) : Int) := by rw [wrap_i64 (by omega) (by omega)]; omega
  rw [e1, e2]
  have him := h.l.im.sl
  refine NilF.intro rfl ⟨_, _, _, c0 h.hb rfl, ⟨by omega, by have := him.2.1; omega⟩, ⟨by omega, by simp only [hiOf]; omega⟩, ?_⟩
  rw [Int.toNat_natCast, Int.toNat_natCast, show I * 512 + 512 - I * 512 = 512 by omega]
  have hrd : Rd w (subA H.ia H.ic (I * 512) 1) (bvs (v.sect I)) := by
    unfold Dv.sect
    rw [← bvs_take]
    exact (rd_drop him.rd him.2.1).take _
  have hsl : (v.sect I).length = 512 := by unfold Dv.sect; rw [List.length_take, List.length_drop]; omega
  have nn : subA H.ia H.ic (I * 512) 1 = none → (512 : Nat) = 0 := fun h0 => by
    obtain ⟨_, _, he, _⟩ := hrd 0 _ (bvs_get (by omega))
    rw [h0] at he
    cases he
  refine rown_c hrd hsl nn (by decide) fun a2 c2 w2 hs2 k2 fr2 => ⟨_, _, _, rfl, ?_⟩
  refine loopN (fun s w' => ∃ (k : Nat) (a : Option Addr) (c : Nat) (bs : List UInt8), s = ((a, 512, c), (k : Int), ()) ∧ k ≤ Q.length ∧ bs.length = 512 ∧ Kp no w w' ∧ Sl w' T_uint8 1 a 512 c (bvs bs) ∧ Fresh w a ∧ readL (I : Int) (v.q.drop k) bs = readL (I : Int) v.q (v.sect I)) (fun s _ => Q.length - s.2.1.toNat)
    ⟨0, a2, c2, _, rfl, by omega, hsl, k2, hs2, fr2, by simp⟩ ?_
  rintro s w3 ⟨k, a, c, bs, rfl, hk, hbl, k3, hs3, fr3, hrl⟩ _
  dsimp only
  have h3 := h.kp0 k3
  refine NilF.intro rfl ⟨_, _, _, cN h3.hb rfl, cond_d (fun hlt => ?_) (fun hge => ?_)⟩
  · have hkl : k < Q.length := by omega
    have hkw : IntKind.wrap .i64 ((k : Int) + 1) = ((k + 1 : Nat) : Int) := by rw [wrap_i64 (by omega) (by omega)]; omega
    rw [hkw]
    have hvk : v.q[k]'(by omega) = ((Q[k]).sec, (Q[k]).bs) := by simp only [h.l.qv, List.getElem_map, PD.v]
    have hst := readL_step (I : Int) v.q k bs (by omega)
    rw [hvk] at hst
    dsimp only at hst
    have hqk := hok.q ((Q[k]).sec, (Q[k]).bs) (by rw [← hvk]; exact List.getElem_mem _)
    obtain ⟨bq, oq, hqa, q0, q1⟩ := pdA h3.l.pl.sl.rd hkl
    refine NilF.intro rfl ⟨_, _, _, cN h3.hb rfl, by omega, hlt, _, hqa, _, by rw [Int.toNat_natCast]; exact q0, cond_eq (fun hse => ?_) (fun hsn => ?_)⟩
    · rw [if_pos hse] at hst
      have hpb := (h3.l.pb _ (List.getElem_mem hkl)).sl
      refine NilF.intro rfl ⟨_, _, _, cN h3.hb rfl, by omega, hlt, _, hqa, _, _, _, by rw [Int.toNat_natCast]; exact q1, ?_⟩
      refine rown_c hpb.rd rfl (fun h0 => sl_some' hpb h0) (by rw [hqk.2.2]; decide) fun a4 c4 w4 hs4 k4 fr4 => ⟨_, _, _, rfl, ?_⟩
      rw [hqk.2.2] at hs4 ⊢
      exact ⟨⟨k + 1, a4, c4, _, rfl, by omega, hqk.2.2, k3.trans0 k4, hs4, fun j hj => by have := fr4 j hj; have := k3.size; omega, by rw [← hst]; exact hrl⟩, by simp only [Int.toNat_natCast]; omega⟩
    · rw [if_neg hsn] at hst
      exact ⟨⟨k + 1, a, c, bs, rfl, by omega, hbl, k3, hs3, fr3, by rw [← hst]; exact hrl⟩, by simp only [Int.toNat_natCast]; omega⟩
  · have hke : k = Q.length := by omega
    subst hke
    rw [List.drop_eq_nil_of_le (by omega), readL] at hrl
    have := hK a 512 c w3 k3 (by rw [e, ← hrl]; exact hs3) fr3
    rw [e] at this
    exact this
end
section
variable {w : World} {ow : Nat → Nat} {t b : Nat} {v : Dv} {R : Po}
set_option maxRecDepth 100000 in
theorem rcache_c (h : RX w ow t b v) (hq : v.q.length ≤ 1000000) (hK : ∀ a c X w', Ca w w' a v.q.length c X → X.map PD.v = v.q → R (.returned (.slice a v.q.length c)) w') : GoC Tryz.prog F_ref03_Device_Cache #[.pointer (some ⟨b, 0, none⟩)] w R := by
  obtain ⟨H, Q, ka, kc, kp, kt, ko, h⟩ := h
  have hql : v.q.length = Q.length := by rw [h.l.qv]; simp
  have hok := h.l.ok
  refine S_ref03_Device_Cache ?_
  unfold W_ref03_Device_Cache
  refine loopN (fun s w' => ∃ (k : Nat) (a : Option Addr) (c : Nat) (X : List PD), s = ((a, k, c), (k : Int), ()) ∧ k ≤ Q.length ∧ Ca w w' a k c X ∧ X.map PD.v = v.q.take k) (fun s _ => Q.length - s.2.1.toNat)
    ⟨0, none, 0, [], rfl, by omega, ⟨Kp.refl _ _, Sl.nil _ _ _, rfl, fun k hk => (is_none hk).elim, fun x hx => absurd hx (by simp), List.Pairwise.nil⟩, by simp⟩ ?_
  rintro s w1 ⟨k, a, c, X, rfl, hk, hC, hX⟩ _
  dsimp only
  have h1 := h.kp0 hC.k
  refine NilF.intro rfl ⟨_, _, _, cN h1.hb rfl, cond_d (fun hlt => ?_) (fun hge => ?_)⟩
  rotate_left
  · have hke : k = Q.length := by omega
    subst hke
    have := hK a c X w1 (by rw [hql]; exact hC) (by rw [hX, ← hql, List.take_length])
    rw [hql] at this
    exact this
  have hkl : k < Q.length := by omega
  have hkw : IntKind.wrap .i64 ((k : Int) + 1) = ((k + 1 : Nat) : Int) := by rw [wrap_i64 (by omega) (by omega)]; omega
  rw [hkw]
  have hpb := h1.l.pb _ (List.getElem_mem hkl)
  have hvk : v.q.take (k + 1) = v.q.take k ++ [(Q[k]).v] := by rw [h.l.qv]; exact take_map PD.v Q k hkl
  have hqk := hok.q (Q[k]).v (by rw [h.l.qv]; exact List.mem_map_of_mem (List.getElem_mem hkl))
  obtain ⟨bq, oq, hqa, q0, q1⟩ := pdA h1.l.pl.sl.rd hkl
  generalize Q[k] = x at *
  have kd : Kp no w1 w1.drew := Kp.drew w1 1
  have la := hC.s.lt
  have sz0 := hC.k.size
  have nb : ¬ Is a b := fun hh => by have := hC.f b hh; have := h.hb.lt; omega
  have nq : ¬ Is a bq := fun hh => by have := hC.f bq hh; have := h.l.pl.sl.lt bq ⟨_, hqa, rfl⟩; omega
  refine ⟨fun w' => Kp (Is a) w1 w', kd.of_no, NilF.intro rfl ⟨_, _, _, fun w' kz => cN (kz.blk h1.hb nb) rfl, by omega, hlt, _, hqa, _, fun w' kz => by rw [Int.toNat_natCast]; exact kz.cell q0 (by rw [add_at]; exact nq), ?_⟩⟩
  refine NilF.intro rfl ⟨_, _, _, fun w' kz => cN (kz.blk h1.hb nb) rfl, by omega, hlt, _, hqa, _, _, _, fun w' kz => by rw [Int.toNat_natCast]; exact kz.cell q1 (by rw [add_at, add_at]; exact nq), ?_⟩
  have hx0 : x.a = none → x.bs.length = 0 := fun h0 => sl_some' hpb.sl h0
  refine rown_c (hpb.sl.rd.kp0 kd) rfl hx0 (by have := hqk.2.2; show x.bs.length ≤ _; have e : x.v.2.length = x.bs.length := rfl; omega) fun a4 c4 w5 hs5 k5 fr5 => ⟨_, _, _, rfl, (kd.trans0 k5).of_no, ?_⟩
  refine AlF.intro fun b2 w6 hb2e hb2 k6 s6 => ⟨((kd.trans0 k5).trans0 k6).of_no, ?_⟩
  have k16 := (kd.trans0 k5).trans0 k6
  have sz5 := k5.size
  have szd := kd.size
  refine append_own er_pd (hC.s.kp0 k16) (rd_cells (xs := PD.cs ⟨x.sec, a4, c4, x.bs⟩) hb2 rfl) rfl (fun h => by cases h) (fun u hu => by
    simp only [PD.cs, List.mem_cons, List.not_mem_nil, or_false] at hu
    rcases hu with rfl | rfl <;> rfl) (by omega) (by omega) fun a5 c5 w7 hs7 k7 hi7 _ _ => ⟨_, _, _, rfl, k16.of_no.trans0 k7, ?_⟩
  have la4 := hs5.lt
  refine ⟨⟨k + 1, a5, c5, X ++ [⟨x.sec, a4, c4, x.bs⟩], rfl, by omega, ⟨?_, ?_, by simp [hC.n], fun j hj => ?_, fun y hy => ?_, List.pairwise_append.2 ⟨hC.d, List.pairwise_singleton _ _, fun y hy z hz j hj hj' => ?_⟩⟩, ?_⟩, by simp only [Int.toNat_natCast]; omega⟩
  · exact (hC.k.trans0 k16).trans k7 (fun _ _ h => h) fun j hj hh => by have := hC.f j hh; omega
  · have e : fP (X ++ [⟨x.sec, a4, c4, x.bs⟩]) = fP X ++ PD.cs ⟨x.sec, a4, c4, x.bs⟩ := by unfold fP; rw [flatV_app]; simp [flatV]
    rw [e]
    exact hs7
  · rcases hi7 j hj with hh | hh
    · exact hC.f j hh
    · have := k6.size; omega
  · rcases List.mem_append.1 hy with hy | hy
    · obtain ⟨q1, q2, q3⟩ := hC.x y hy
      refine ⟨(q1.kp0 k16).kp k7 q3, q2, fun j hj hh => ?_⟩
      have := q1.lt j hj
      rcases hi7 j hh with h' | h'
      · exact q3 j hj h'
      · have := k6.size; omega
    · rw [List.mem_singleton] at hy
      subst hy
      refine ⟨(hs5.kp0 k6).kp k7 fun j hj hh => ?_, fun j hj => ?_, fun j hj hh => ?_⟩
      · have := fr5 j hj; have := la j hh; omega
      · have := fr5 j hj; omega
      · have q1 := fr5 j hj
        have q2 := la4 j hj
        rcases hi7 j hh with h' | h'
        · have := la j h'; omega
        · have := k6.size; omega
  · rw [List.mem_singleton] at hz
    subst hz
    have := (hC.x y hy).1.lt j hj
    have := fr5 j hj'
    omega
  · rw [hvk, List.map_append, hX]
    rfl
set_option maxRecDepth 100000 in
theorem rwrite_c {i : Int} {a : Option Addr} {l c : Nat} {bs : List UInt8} (h : RX w ow t b v) (hr : Bs w ow t a bs) (hl : bs.length = l) (hq : v.q.length ≤ 999999) (hln : v.keep.length * 8 ≤ 140737488355328)
    (hK : ∀ w' ow', RX w' ow' t b (v.write i bs).2 → Fro (Td t) w ow w' ow' → R (.returned (.int .i64 ((v.write i bs).1 : Int))) w') :
    GoC Tryz.prog F_ref03_Device_Write #[.pointer (some ⟨b, 0, none⟩), .int .i64 i, .slice a l c] w R := by
  subst hl
  have hX := h
  obtain ⟨H, Q, ka, kc, kp, kt, ko, h⟩ := h
  have hql : v.q.length = Q.length := by rw [h.l.qv]; simp
  refine S_ref03_Device_Write ?_
  unfold W_ref03_Device_Write
  have same : ∀ n, v.write i bs = (n, v) → R (.returned (.int .i64 (n : Int))) w := fun n e => by
    have := hK w ow (by rw [e]; exact hX) ⟨Kp.refl _ _, fun _ _ _ => rfl⟩
    rw [e] at this
    exact this
  refine NilF.intro rfl ⟨v.down, cN h.hb rfl, cond_b (fun hd => ?_) (fun hd => ?_)⟩
  · exact same 40 (by unfold Dv.write; rw [if_pos hd])
  have ed : ∀ {A B : Nat × Dv}, (if v.down then A else B) = B := fun {A B} => by rw [hd, if_neg (by decide)]
  refine rthere_c hX ⟨_, rfl, cond_not (cond_d (fun hth => ?_) (fun hth => ?_))⟩
  rotate_left
  · exact same 41 (by unfold Dv.write; rw [ed, if_pos hth])
  refine cond_ne (fun hbl => ?_) (fun hbl => ?_)
  · exact same 42 (by unfold Dv.write; rw [ed, if_neg (by simpa using hth), if_pos (by omega)])
  have hb5 : bs.length = 512 := by omega
  have kd : Kp no w w.drew := Kp.drew w 1
  have nb : ¬ Is H.pa b := fun hh => by have := h.l.pl.tg b hh; have := h.bt; omega
  refine ⟨fun w' => Kp (Is H.pa) w w', kd.of_no, NilF.intro rfl ⟨_, _, _, fun w' kz => cN (kz.blk h.hb nb) rfl, ?_⟩⟩
  refine rown_c (hr.rd.rd.kp0 kd) rfl hr.nn hr.ln fun a3 c3 w3 hsl3 k3 fr3 => ⟨_, _, _, rfl, (kd.trans0 k3).of_no, ?_⟩
  refine AlF.intro fun b1 w4 hb1e hb1 k4 s4 => ⟨((kd.trans0 k3).trans0 k4).of_no, ?_⟩
  have k24 := (kd.trans0 k3).trans0 k4
  have f4 : Fro (fun _ => True) w ow w4 (ext ow w.heap.size (t + 3)) := Fro.of_kp0 (t + 3) k24
  have h4 := h.fr f4 trivial trivial trivial trivial
  have hb4 : SlT w4 (ext ow w.heap.size (t + 3)) T_uint8 1 a3 bs.length c3 (bvs bs) (t + 3) := ⟨hsl3.kp0 k4, fun j hj => ext_new (fr3 j hj)⟩
  generalize ext ow w.heap.size (t + 3) = ow4 at *
  refine app_c er_pd h4.l.pl (rd_cells (xs := PD.cs ⟨i, a3, c3, bs⟩) hb1 rfl) rfl (fun h => by cases h) (fun u hu => by
    simp only [PD.cs, List.mem_cons, List.not_mem_nil, or_false] at hu
    rcases hu with rfl | rfl <;> rfl) (by omega) (by omega) fun a4 c4 w5 hs5 k5 f5 => ⟨_, _, _, rfl, k24.of_no.trans0 k5, ?_⟩
  obtain ⟨hbd5, hbt5⟩ := blk_fr h4.hb h4.bt f5 (by omega)
  refine NilF.intro rfl (stb (add1 b 1) hbd5 hbt5 (by simp [Dh.rs]) fun w6 hb6 f6 s6 => ?_)
  have f46 : Fro (fun u => u ≠ t ∧ u ≠ t + 2) w4 ow4 w6 (ext ow4 w4.heap.size (t + 2)) := (f5.mono fun u hu => hu.2).trans (f6.mono fun u hu => hu.1)
  have hokA := h4.l.ok.add (i := i) (b := bs) hth hb5
  have h6 : RP w6 (ext ow4 w4.heap.size (t + 2)) t b ⟨H.ia, H.ic, a4, c4⟩ (Q ++ [⟨i, a3, c3, bs⟩]) ka kc kp kt ko (v.add i bs) := by
    refine ⟨⟨h4.l.im.fr f46 (by omega), ?_, fun x hx => ?_, ?_, hokA⟩, ?_, hbt5, h4.ks.fr f46 (by omega), h4.kl, h4.ke⟩
    · have := hs5.fr f6 (by omega)
      rw [List.length_append]
      show SlT w6 _ T_api_Pending 2 a4 (Q.length + 1) c4 (fP (Q ++ [⟨i, a3, c3, bs⟩])) (t + 2)
      have e : fP (Q ++ [⟨i, a3, c3, bs⟩]) = fP Q ++ PD.cs ⟨i, a3, c3, bs⟩ := by unfold fP; rw [flatV_app]; simp [flatV]
      rw [e]
      exact this
    · rcases List.mem_append.1 hx with hx | hx
      · exact (h4.l.pb x hx).fr f46 (by omega)
      · rw [List.mem_singleton] at hx
        subst hx
        exact hb4.fr f46 (by omega)
    · show v.q ++ [(i, bs)] = (Q ++ ([⟨i, a3, c3, bs⟩] : List PD)).map PD.v
      rw [h.l.qv, List.map_append]
      rfl
    · rw [List.length_append]
      exact hb6
  have f06 : Fro (Td t) w ow w6 (ext ow4 w4.heap.size (t + 2)) := (f4.mono fun _ _ => trivial).trans (f46.mono fun u hu => ⟨hu.1, hu.2.2⟩)
  refine counted_c h6 fun w7 h7 f7 => ⟨_, rfl, cond_d (fun hs => ?_) (fun hs => ?_)⟩
  · have hs' : v.step = 1 := hs
    have e : v.write i bs = (40, (v.bump.add i bs).fall v.keep v.torn v.off) := by unfold Dv.write; rw [ed, if_neg (by simpa using hth), if_neg (by omega), if_pos hs']
    obtain ⟨rfl, rfl, rfl⟩ := h.ke (by omega)
    refine NilF.intro rfl ⟨_, _, _, _, _, ⟨cN h7.hb rfl, cNM h7.hb rfl, cNM h7.hb rfl, trivial⟩, rfall_c h7 (rkp_ls h7 hln) (by rw [List.length_append]; simp; omega) fun w' ow' h' f' => ⟨rfl, ?_⟩⟩
    have := hK w' ow' (by rw [e]; exact h') ((f06.trans (f7.mono fun u hu => hu.1)).trans (f'.mono fun u hu => ⟨hu.1, hu.2.1⟩))
    rw [e] at this
    exact this
  · have hs' : ¬ v.step = 1 := hs
    have e : v.write i bs = (0, v.bump.add i bs) := by unfold Dv.write; rw [ed, if_neg (by simpa using hth), if_neg (by omega), if_neg hs']
    have := hK w7 _ (by rw [e]; exact ⟨_, _, _, _, _, _, _, h7⟩) (f06.trans (f7.mono fun u hu => hu.1))
    rw [e] at this
    exact this
set_option maxRecDepth 100000 in
theorem rsync_c (h : RX w ow t b v) (hq : v.q.length ≤ 1000000) (hln : v.keep.length * 8 ≤ 140737488355328) (hK : ∀ w' ow', RX w' ow' t b v.sync.2 → Fro (Td t) w ow w' ow' → R (.returned (.int .i64 (v.sync.1 : Int))) w') :
    GoC Tryz.prog F_ref03_Device_Sync #[.pointer (some ⟨b, 0, none⟩)] w R := by
  obtain ⟨H, Q, ka, kc, kp, kt, ko, h⟩ := h
  have hql : v.q.length = Q.length := by rw [h.l.qv]; simp
  refine S_ref03_Device_Sync ?_
  unfold W_ref03_Device_Sync
  refine NilF.intro rfl ⟨v.down, cN h.hb rfl, cond_b (fun hd => ?_) (fun hd => ?_)⟩
  · have e : v.sync = (40, v) := by unfold Dv.sync; rw [if_pos hd]
    have := hK w ow (by rw [e]; exact ⟨H, Q, ka, kc, kp, kt, ko, h⟩) ⟨Kp.refl _ _, fun _ _ _ => rfl⟩
    rw [e] at this
    exact this
  refine counted_c h fun w1 h1 f1 => ⟨_, rfl, cond_d (fun hs => ?_) (fun hs => ?_)⟩
  · have e : v.sync = (40, v.bump.fall v.keep v.torn v.off) := by unfold Dv.sync; rw [hd, if_neg (by decide), if_pos hs]
    obtain ⟨rfl, rfl, rfl⟩ := h.ke (by omega)
    refine NilF.intro rfl ⟨_, _, _, _, _, ⟨cN h1.hb rfl, cNM h1.hb rfl, cNM h1.hb rfl, trivial⟩, rfall_c h1 (rkp_ls h1 hln) (by omega) fun w' ow' h' f' => ⟨rfl, ?_⟩⟩
    have := hK w' ow' (by rw [e]; exact h') ((f1.mono fun u hu => hu.1).trans (f'.mono fun u hu => ⟨hu.1, hu.2.1⟩))
    rw [e] at this
    exact this
  have e : v.sync = (0, v.bump.synced) := by unfold Dv.sync; rw [hd, if_neg (by decide), if_neg hs]
  have hok := h1.l.ok
  have hlen : v.img.length = v.n * 512 := hok.len
  have hM1 := h1.md
  have hcsz : (H.rs Q.length v.bump.img.length v.bump.down v.bump.calls v.bump.step ka kp.length kc kt ko).size = 8 := rfl
  generalize hcE : H.rs Q.length v.bump.img.length v.bump.down v.bump.calls v.bump.step ka kp.length kc kt ko = cs at *
  have hfin : cs.setIfInBounds 1 (.slice none 0 0) = (⟨H.ia, H.ic, none, 0⟩ : Dh).rs 0 v.img.length v.down v.bump.calls v.bump.step ka kp.length kc kt ko := by rw [← hcE]; rfl
  have hQv : ∀ k (hk : k < Q.length), v.q[k]? = some ((Q[k]).sec, (Q[k]).bs) := fun k hk => by rw [h.l.qv]; simp [hk, PD.v]
  refine loopN (fun s w' => ∃ (k : Nat) (ow' : Nat → Nat) (img : List UInt8), s.1 = (k : Int) ∧ k ≤ Q.length ∧ syncL (v.q.drop k) img = syncL v.q v.img ∧ MdQ w' ow' t b H Q v.n img cs ∧ Fro (fun u => u ≠ t + 1) w1 ow w' ow') (fun s _ => Q.length - s.1.toNat)
    ⟨0, ow, v.img, rfl, by omega, by simp, hM1, ⟨Kp.refl _ _, fun _ _ _ => rfl⟩⟩ ?_
  rintro ⟨k0, u⟩ w2 ⟨k, ow2, img, hk0, hk, hfl, hM, f2⟩ _
  dsimp only at hk0 ⊢
  subst hk0
  refine NilF.intro rfl ⟨_, _, _, cN hM.hb hM.c1, cond_d (fun hlt => ?_) (fun hge => ?_)⟩
  · have hkl : k < Q.length := by omega
    have hkw : IntKind.wrap .i64 ((k : Int) + 1) = ((k + 1 : Nat) : Int) := by rw [wrap_i64 (by omega) (by omega)]; omega
    rw [hkw]
    have hx := hM.ok _ (List.getElem_mem hkl)
    have hst := syncL_step v.q k img (by omega)
    have hvk : v.q[k]'(by omega) = ((Q[k]).sec, (Q[k]).bs) := by have := hQv k hkl; rw [List.getElem?_eq_getElem (by omega)] at this; exact Option.some.inj this
    rw [hvk] at hst
    dsimp only at hst
    have t512 : (Q[k]).bs.take (512 : Int).toNat = (Q[k]).bs := List.take_of_length_le (by rw [hx.2.2]; decide)
    exact NilF.intro rfl (lay_q hM hkl (by decide) fun w' ow' hM' f' => ⟨⟨k + 1, ow', _, rfl, by omega, by rw [t512, ← hst]; exact hfl, hM', f2.trans f'⟩, by simp only [Int.toNat_natCast]; omega⟩)
  · have hke : k = Q.length := by omega
    subst hke
    rw [List.drop_eq_nil_of_le (by omega), syncL] at hfl
    refine NilF.intro rfl (stb (add1 b 1) hM.hb hM.bt (by rw [hcsz]; decide) fun w11 hb11 f11 s11 => ?_)
    rw [hfin] at hb11
    have hlen' : (syncL v.q v.img).length = v.img.length := by rw [← hfl, hM.il, hlen]
    have := hK w11 ow2 (by
      rw [e]
      refine ⟨⟨H.ia, H.ic, none, 0⟩, [], ka, kc, kp, kt, ko, ⟨?_, slt_nil _ _ _ _ _, fun x hx => absurd hx (by simp), rfl, hok.synced⟩, ?_, hM.bt, (h1.ks.fr f2 (by omega)).fr f11 (by omega), h1.kl, h1.ke⟩
      · show SlT w11 ow2 T_uint8 1 H.ia (syncL v.q v.img).length H.ic (bvs (syncL v.q v.img)) (t + 1)
        rw [← hfl, hM.il]
        exact hM.im.fr f11 (by omega)
      · show Blk w11 b ((⟨H.ia, H.ic, none, 0⟩ : Dh).rs 0 (syncL v.q v.img).length v.down v.bump.calls v.bump.step ka kp.length kc kt ko) T_quotaref03_Device
        rw [hlen']
        exact hb11) (((f1.mono fun u hu => hu.1).trans (f2.mono fun u hu => hu.2.1)).trans (f11.mono fun u hu => hu.1))
    rw [e] at this
    exact this
end
end Go.Proofs.YtkfdkcclojepnaaGreat
