/- Contracts of the document's package for layer 5: put, sign, Encode. Conditions: none. -/
import Derived.Test.YtjhncijdkmbopaaQd
import Derived.Test.YtjhncijdkmbopaaQa
import Derived.Test.YtjhncijdkmbopaaRk
set_option linter.unusedVariables false
set_option linter.unusedSimpArgs false
namespace Go.Proofs.Ytjhncijdkmbopaa
open Go Go.RowKit

def iv (n : Int) : Value := .int .i64 n
def codes (ns : List Int) : List UInt8 := ns.flatMap fun n => vform n.toNat
theorem codes_snoc (ns : List Int) {k : Nat} (h : k < ns.length) : codes (ns.take (k + 1)) = codes (ns.take k) ++ vform (ns[k]).toNat := flat_snoc h
theorem codes_len {ns : List Int} (h : ∀ n ∈ ns, 0 ≤ n ∧ n ≤ 2147483648) : (codes ns).length ≤ ns.length * 10 := flat_len fun x hx => vlen31 (by have := h x hx; omega)
theorem fresh_tag {w w' : World} {ow : Nat → Nat} {a : Option Addr} {t : Nat} (h : Fresh w a) : RdT w' (ext ow w.heap.size t) a [] t := ⟨Rd.nil _ _, fun hh => absurd rfl hh⟩

theorem put_c {w : World} {ow : Nat → Nat} {a : Option Addr} {l c : Nat} {bs : List UInt8} {a2 : Option Addr} {l2 c2 : Nat} {ns : List Int} {R : Ending → World → Prop} (hs : SlT w ow T_uint8 1 a l c (bvs bs) 2) (hl : bs.length = l) (hr : RdT w ow a2 (ns.map iv) 9) (hl2 : ns.length = l2)
    (hn : ∀ n ∈ ns, 0 ≤ n ∧ n ≤ 2147483648) (hb : bs.length ≤ 10000) (hb2 : ns.length ≤ 100)
    (hk : ∀ a' c' w' ow', SlT w' ow' T_uint8 1 a' (bs ++ codes ns).length c' (bvs (bs ++ codes ns)) 2 → Fro (fun t => t ≠ 2) w ow w' ow' → R (.returned (.slice a' (bs ++ codes ns).length c')) w') : GoC Try.prog F_ref05_put #[.slice a l c, .slice a2 l2 c2] w R := by
  subst hl hl2
  refine S_ref05_put ?_
  unfold W_ref05_put
  refine loopN (fun s w1 => ∃ k : Nat, k ≤ ns.length ∧ ∃ a1 c1 ow1, s = ((a1, (bs ++ codes (ns.take k)).length, c1), (k : Int), ()) ∧ SlT w1 ow1 T_uint8 1 a1 (bs ++ codes (ns.take k)).length c1 (bvs (bs ++ codes (ns.take k))) 2 ∧ RdT w1 ow1 a2 (ns.map iv) 9 ∧ Fro (fun t => t ≠ 2) w ow w1 ow1) (fun s _ => ns.length - s.2.1.toNat)
    ⟨0, Nat.zero_le _, a, c, ow, by simp [codes], by simpa [codes] using hs, hr, Fro.of_kp' (Kp.refl no w) fun _ _ h => h.elim⟩ ?_
  rintro s w1 ⟨k, hkn, a1, c1, ow1, rfl, hs1, hr1, f1⟩ _
  dsimp only
  refine cond_d (fun hlt => ?_) (fun hge => ?_)
  · have hkl : k < ns.length := by omega
    have hnk := hn _ (List.getElem_mem hkl)
    refine hr1.rd.idx (by omega) hlt (by simp) fun b o ha hc => ⟨ns[k], by rw [Int.toNat_natCast, add_at]; exact hc k _ (by simp [hkl, iv]), ?_⟩
    rw [u64_toNat hnk.1 hnk.2]
    refine form_c (by omega) fun a3 c3 w2 hs3 k2 hf3 => ⟨a3, _, c3, rfl, ?_⟩
    have f2 : Fro (fun _ => True) w1 ow1 w2 (ext ow1 w1.heap.size 9) := Fro.of_kp0 9 k2
    have lc := codes_len (ns := ns.take k) fun n h => hn n (List.mem_of_mem_take h)
    have lv := vlen31 (n := (ns[k]).toNat) (by omega)
    rw [List.length_take] at lc
    have hll : (bs ++ codes (ns.take k)).length ≤ 20000 := by rw [List.length_append]; omega
    have e0 : a3 = none → (vform (ns[k]).toNat).length = 0 := sl_some hs3 (vform_pos _)
    refine app_c er_u8 (hs1.fr f2 trivial) (hs3.rd) (by rw [bvs_len]; omega) e0 bvs_one (by omega) (by omega) fun a4 c4 w3 hs4 k4 f3 => ⟨a4, _, c4, rfl, ?_⟩
    have e : bs ++ codes (ns.take k) ++ vform (ns[k]).toNat = bs ++ codes (ns.take (k + 1)) := by rw [codes_snoc ns hkl, List.append_assoc]
    have el : (bs ++ codes (ns.take k)).length + (vform (ns[k]).toNat).length = (bs ++ codes (ns.take (k + 1))).length := by rw [← e]; simp only [List.length_append]
    rw [el, ← bvs_app, e] at hs4
    rw [el, wk1 hkl (by omega)]
    exact ⟨⟨k + 1, by omega, a4, c4, _, rfl, hs4, (hr1.fr f2 trivial).fr f3 (by omega), (f1.trans (f2.mono fun _ _ => trivial)).trans f3⟩, by simp only [Int.toNat_natCast]; omega⟩
  · have hke : k = ns.length := by omega
    subst hke
    rw [List.take_length] at hs1 ⊢
    exact hk a1 c1 w1 ow1 hs1 f1

theorem rsign_c {w : World} {ow : Nat → Nat} {a : Option Addr} {l c : Nat} {bs : List UInt8} {i : Int} {R : Ending → World → Prop} (hs : SlT w ow T_uint8 1 a l c (bvs bs) 2) (hl : bs.length = l) (hi : i64 i) (hb : bs.length ≤ 20000)
    (hk : ∀ a' c' w' ow', SlT w' ow' T_uint8 1 a' (bs ++ vform (zig i)).length c' (bvs (bs ++ vform (zig i))) 2 → Fro (fun t => t ≠ 2) w ow w' ow' → R (.returned (.slice a' (bs ++ vform (zig i)).length c')) w') : GoC Try.prog F_ref05_sign #[.slice a l c, .int .i64 i] w R := by
  subst hl
  refine S_ref05_sign ?_
  unfold W_ref05_sign
  have hz := zig_lt hi.1 hi.2
  refine sign_c hi.1 hi.2 ⟨_, rfl, ?_⟩
  refine form_c hz fun a3 c3 w2 hs3 k2 hf3 => ⟨a3, _, c3, rfl, ?_⟩
  have f2 : Fro (fun _ => True) w ow w2 (ext ow w.heap.size 9) := Fro.of_kp0 9 k2
  have lv := vform_len64 hz
  have e0 : a3 = none → (vform (zig i)).length = 0 := sl_some hs3 (vform_pos _)
  refine app_c er_u8 (hs.fr f2 trivial) (hs3.rd) (by rw [bvs_len]; omega) e0 bvs_one (by omega) (by omega) fun a4 c4 w3 hs4 k4 f3 => ⟨a4, _, c4, rfl, ?_⟩
  rw [← bvs_app, ← List.length_append] at hs4
  rw [← List.length_append]
  exact hk a4 c4 w3 _ hs4 ((f2.mono fun _ _ => trivial).trans f3)
theorem tmp9 {w : World} {ow : Nat → Nat} (ns : List Int) {T : TypeId} {K : Nat → World → Prop} (h : ∀ b w', RdT w' (ext ow w.heap.size 9) (some ⟨b, 0, none⟩) (ns.map iv) 9 → Fro (fun _ => True) w ow w' (ext ow w.heap.size 9) → K b w') : AlF w (.cells (ns.map iv).toArray T) K :=
  AlF.intro fun b w' hb hblk k _ => h b w' ⟨rd_cells hblk rfl, fun _ j hj => by
    obtain ⟨ad, had, hj⟩ := hj
    cases had
    exact ext_new (by dsimp only at hj; omega)⟩ (Fro.of_kp0 9 k)
theorem enc_codes (r : RV) : encB r = vform r.kind.toNat ++ (codes ((iof r.kind).map r.gi) ++ ((sof r.kind).flatMap (sgnB r) ++ tailB r)) := by
  unfold encB codes
  rw [List.flatMap_map]
  rfl
theorem fresh_of {w0 w : World} {ow : Nat → Nat} {a : Option Addr} {t : Nat} (ho : Old w0 w ow) (ht : Tg ow t (Is a)) (h0 : t ≠ 0) : Fresh w0 a := fun k hk => by
  rcases Nat.lt_or_ge k w0.heap.size with h | h
  · have := ht k hk
    rw [ho.z k h] at this
    exact absurd this.symm h0
  · exact h
/-- The boxes of the document's Encode. -/
structure Eb (w0 w : World) (ow : Nat → Nat) (b1 b3 : Nat) (r : RV) (m : Mm) : Prop where
  old : Old w0 w ow
  x1 : Blk w b1 (r.ca m) T_api_Record
  t1 : ow b1 = 1
  x3 : Blk w b3 #[.int .i64 r.id, .int .i64 r.grp, .int .i64 r.lo, .int .i64 r.hi, .int .i64 r.val] T_api_Counter
  t3 : ow b3 = 3
theorem Eb.fr {T : Nat → Prop} {w0 w w' : World} {ow ow' : Nat → Nat} {b1 b3 : Nat} {r : RV} {m : Mm} (h : Eb w0 w ow b1 b3 r m) (f : Fro T w ow w' ow') (h0 : T 0) (h1 : T 1) (h3 : T 3) : Eb w0 w' ow' b1 b3 r m := by
  obtain ⟨a, b⟩ := blk_fr h.x1 h.t1 f h1
  obtain ⟨c, d⟩ := blk_fr h.x3 h.t3 f h3
  exact ⟨h.old.fr f h0, a, b, c, d⟩

set_option maxHeartbeats 1000000 in
theorem rencode_c {w : World} {r : RV} {m : Mm} {R : Ending → World → Prop} (hi : LiIn w m r.live r.dirty) (h64 : r.w64)
    (hbad : chkN r ≠ 0 → ∀ w', Kp no w w' → R (.returned (.tuple #[.slice none 0 0, .int .i64 (chkN r : Int)])) w')
    (hok : chkN r = 0 → ∀ a c w', Kp no w w' → Sl w' T_uint8 1 a (encB r).length c (bvs (encB r)) → Fresh w a → R (.returned (.tuple #[.slice a (encB r).length c, .int .i64 0])) w') : GoC Try.prog F_ref05_Encode #[.agg (r.ca m)] w R := by
  refine S_ref05_Encode ?_
  unfold W_ref05_Encode
  refine AlF.intro fun b1 w1 hb1e hb1 k1 _ => ?_
  have hb1 : Blk w1 b1 (r.ca m) T_api_Record := hb1
  refine rec_rd hb1 (rcheck_c (r := r) (m := m) (hi.kp0 k1) fun w2 k2 => ⟨_, rfl, cond_ne (fun hc => ?_) (fun hc => ?_)⟩)
  · exact hbad (by omega) w2 (k1.trans0 k2)
  have hc0 : chkN r = 0 := by omega
  obtain ⟨hk1, hk8, _⟩ := chk_kind hc0
  have hints := ok_ints hc0
  have hsg := sgn_64 h64
  have o0 : Old w w fun _ => 0 := ⟨Kp.refl _ _, fun _ _ => rfl⟩
  have f1 : Fro (fun _ => True) w (fun _ => 0) w1 (ext (fun _ => 0) w.heap.size 1) := Fro.of_kp0 1 k1
  have f2 : Fro (fun _ => True) w1 (ext (fun _ => 0) w.heap.size 1) w2 (ext (ext (fun _ => 0) w.heap.size 1) w1.heap.size 9) := Fro.of_kp0 9 k2
  have t1 : ext (fun _ => 0) w.heap.size 1 b1 = 1 := ext_new (by omega)
  obtain ⟨x1, t1⟩ := blk_fr hb1 t1 f2 trivial
  have old2 := (o0.fr f1 trivial).fr f2 trivial
  generalize ext (ext (fun _ => 0) w.heap.size 1) w1.heap.size 9 = ow2 at *
  clear f1 f2 o0
  refine ⟨_, x1.at rfl rfl, tmp9 (ow := ow2) [r.kind] fun b2 w3 hr3 f3 => ?_⟩
  refine put_c (bs := []) (ns := [r.kind]) (slt_nil _ _ _ _ _) rfl hr3 rfl (fun n hn => by rw [List.mem_singleton] at hn; omega) (by simp) (by simp) fun a5 c5 w4 ow4 hs4 f4 => ⟨_, _, _, rfl, ?_⟩
  have hbs0 : [] ++ codes [r.kind] = vform r.kind.toNat := by simp [codes]
  rw [hbs0] at hs4 ⊢
  obtain ⟨x1, t1⟩ := blk_fr x1 t1 f3 trivial
  obtain ⟨x1, t1⟩ := blk_fr x1 t1 f4 (by omega)
  have old4 := (old2.fr f3 trivial).fr f4 (by omega)
  refine ⟨_, _, _, _, _, ⟨x1.at rfl rfl, x1.at rfl rfl, x1.at rfl rfl, x1.at rfl rfl, x1.at rfl rfl, trivial⟩, cnt_cp r fun b3 w5 h5 => ?_⟩
  have f5 : Fro (fun _ => True) w4 ow4 w5 (ext ow4 w4.heap.size 3) := Fro.of_kp0 3 h5.kp
  have hs5 := hs4.fr f5 trivial
  have eb5 : Eb w w5 (ext ow4 w4.heap.size 3) b1 b3 r m := by
    obtain ⟨a, b⟩ := blk_fr x1 t1 f5 trivial
    exact ⟨old4.fr f5 trivial, a, b, h5.blk, ext_new h5.nw⟩
  generalize ext ow4 w4.heap.size 3 = ow5 at *
  clear f5 old4 x1 t1 hs4 f4 f3
  have lkd := vlen31 (n := r.kind.toNat) (by omega)
  have fin : ∀ a c w' ow' bs, bs = encB r → SlT w' ow' T_uint8 1 a bs.length c (bvs bs) 2 → Old w w' ow' → R (.returned (.tuple #[.slice a bs.length c, .int .i64 0])) w' := fun a c w' ow' bs hb hs ho => by
    subst hb
    exact hok hc0 a c w' ho.kp hs.sl (fresh_of ho hs.tg (by omega))
  have lis : ∀ {w' : World} {ow' : Nat → Nat}, Old w w' ow' → LiIn w' m r.live r.dirty := fun ho => hi.kp0 ho.kp
  have ns_ok : ∀ ns : List Int, (iof r.kind).map r.gi = ns → ∀ n ∈ ns, 0 ≤ n ∧ n ≤ 2147483648 := fun ns hns n hn => by
    rw [← hns] at hn
    obtain ⟨o, ho, rfl⟩ := List.mem_map.1 hn
    have := hints o ho
    omega
  have nl : ∀ (k : Int), (iof r.kind).length ≤ 7 := fun _ => iof_len _
  refine ⟨fun s w' => w' = w5 ∧ s = ((a5, (vform r.kind.toNat).length, c5), ()) ∧ r.kind = 8, ?_, ?_⟩
  · refine ⟨_, eb5.x1.at rfl rfl, cond_eq (fun e1 => ?_) fun n1 => cond_eq (fun e2 => ?_) fun n2 => ?_⟩
    · have hI : iof r.kind = [2] := by unfold iof; rw [if_neg (by omega), if_neg (by omega), if_neg (by omega), if_neg (by omega)]
      have hS : sof r.kind = [] := by unfold sof; rw [if_neg (by omega), if_neg (by omega)]
      have he : encB r = vform r.kind.toNat ++ codes [r.tx] := by
        rw [enc_codes, hI, hS]
        unfold tailB
        rw [if_neg (by omega)]
        simp [RV.gi]
      refine ⟨_, eb5.x1.at rfl rfl, tmp9 (ow := ow5) [r.tx] fun b4 w6 hr6 f6 => ?_⟩
      refine put_c (ns := [r.tx]) (hs5.fr f6 trivial) rfl hr6 rfl (ns_ok _ (by rw [hI]; rfl)) (by omega) (by simp) fun a6 c6 w7 ow7 hs7 f7 => ⟨_, _, _, rfl, ?_⟩
      exact fin _ _ _ _ _ he.symm hs7 ((eb5.old.fr f6 trivial).fr f7 (by omega))
    · have hI : iof r.kind = [4, 5, 6, 7, 9, 10] := by unfold iof; rw [if_pos e2]
      have hS : sof r.kind = [11, 12, 13] := by unfold sof; rw [if_pos e2]
      have he : encB r = vform r.kind.toNat ++ codes [r.wp, r.wi, r.sp, r.si, r.id, r.grp] ++ vform (zig r.lo) ++ vform (zig r.hi) ++ vform (zig r.val) := by
        rw [enc_codes, hI, hS]
        unfold tailB
        rw [if_neg (by omega)]
        simp [RV.gi, sgnB]
      rw [hS] at hsg
      refine ⟨_, eb5.x1.at rfl rfl, _, eb5.x1.at rfl rfl, _, eb5.x1.at rfl rfl, _, eb5.x1.at rfl rfl, _, eb5.x3.at rfl rfl, _, eb5.x3.at rfl rfl, tmp9 (ow := ow5) [r.wp, r.wi, r.sp, r.si, r.id, r.grp] fun b4 w6 hr6 f6 => ?_⟩
      have hns := ns_ok [r.wp, r.wi, r.sp, r.si, r.id, r.grp] (by rw [hI]; rfl)
      have lc := codes_len hns
      refine put_c (ns := [r.wp, r.wi, r.sp, r.si, r.id, r.grp]) (hs5.fr f6 trivial) rfl hr6 rfl hns (by omega) (by simp) fun a6 c6 w7 ow7 hs7 f7 => ⟨_, _, _, rfl, ?_⟩
      have eb7 := (eb5.fr f6 trivial trivial trivial).fr f7 (by omega) (by omega) (by omega)
      have fd : Fro (fun _ => True) w7 ow7 w7.drew ow7 := Fro.of_kp' (Kp.drew w7 1) fun _ _ h => h.elim
      have i1 := hsg 11 (by simp)
      have i2 := hsg 12 (by simp)
      have i3 := hsg 13 (by simp)
      have z1 := vform_len64 (zig_lt i1.1 i1.2)
      have z2 := vform_len64 (zig_lt i2.1 i2.2)
      have z3 := vform_len64 (zig_lt i3.1 i3.2)
      simp only [RV.gi] at z1 z2 z3
      simp only [List.length_cons, List.length_nil] at lc
      refine ⟨fun w' => Blk w' b3 #[.int .i64 r.id, .int .i64 r.grp, .int .i64 r.lo, .int .i64 r.hi, .int .i64 r.val] T_api_Counter, eb7.x3, _, fun w' hw' => hw'.at rfl rfl, _, fun w' hw' => hw'.at rfl rfl, _, fun w' hw' => hw'.at rfl rfl, ?_⟩
      have eb8 := eb7.fr fd trivial trivial trivial
      refine rsign_c (hs7.fr fd trivial) rfl i1 (by simp only [List.length_append]; omega) fun a8 c8 w8 ow8 hs8 f8 => ⟨_, _, _, rfl, ?_⟩
      have eb8 := eb8.fr f8 (by omega) (by omega) (by omega)
      refine ⟨eb8.x3, rsign_c hs8 rfl i2 (by simp only [List.length_append, RV.gi]; omega) fun a9 c9 w9 ow9 hs9 f9 => ⟨_, _, _, rfl, ?_⟩⟩
      have eb9 := eb8.fr f9 (by omega) (by omega) (by omega)
      refine ⟨eb9.x3, rsign_c hs9 rfl i3 (by simp only [List.length_append, RV.gi]; omega) fun aa ca wa owa hsa fa => ⟨_, _, _, rfl, ?_⟩⟩
      have eba := eb9.fr fa (by omega) (by omega) (by omega)
      exact ⟨eba.x3, fin _ _ _ _ _ he.symm hsa eba.old⟩
    · refine ⟨fun s w' => w' = w5 ∧ s.1 = decide (r.kind = 3 ∨ r.kind = 4), ?_, ?_⟩
      · refine cond_eq (fun e3 => ⟨rfl, ?_⟩) (fun n3 => ⟨rfl, ?_⟩)
        · rw [decide_eq_true (.inl e3)]
          simp [e3]
        · by_cases e4 : r.kind = 4
          · rw [decide_eq_true (.inr e4)]
            simp [e4]
          · rw [decide_eq_false (by omega)]
            simp [e4]
      rintro ⟨q, u⟩ w6 ⟨hw6, hq⟩ _
      dsimp only at hq
      subst hq
      rw [hw6]
      refine cond_d (fun e34 => ?_) (fun n34 => ?_)
      · have hI : iof r.kind = [2, 3, 4, 5, 6, 7, 9] := by unfold iof; rw [if_neg (by omega), if_neg (by omega), if_pos e34]
        have hS : sof r.kind = [8] := by unfold sof; rw [if_neg (by omega), if_pos e34]
        have he : encB r = vform r.kind.toNat ++ codes [r.tx, r.prev, r.wp, r.wi, r.sp, r.si, r.id] ++ vform (zig r.delta) := by
          rw [enc_codes, hI, hS]
          unfold tailB
          rw [if_neg (by omega)]
          simp [RV.gi, sgnB]
        rw [hS] at hsg
        have hns := ns_ok [r.tx, r.prev, r.wp, r.wi, r.sp, r.si, r.id] (by rw [hI]; rfl)
        have lc := codes_len hns
        simp only [List.length_cons, List.length_nil] at lc
        have fd : Fro (fun _ => True) w5 ow5 w5.drew ow5 := Fro.of_kp' (Kp.drew w5 1) fun _ _ h => h.elim
        have eb6 := eb5.fr fd trivial trivial trivial
        refine ⟨fun w' => Blk w' b1 (r.ca m) T_api_Record ∧ Blk w' b3 #[.int .i64 r.id, .int .i64 r.grp, .int .i64 r.lo, .int .i64 r.hi, .int .i64 r.val] T_api_Counter, ⟨eb5.x1, eb5.x3⟩, _, fun w' hw' => hw'.1.at rfl rfl, _, fun w' hw' => hw'.1.at rfl rfl, _, fun w' hw' => hw'.1.at rfl rfl, _, fun w' hw' => hw'.1.at rfl rfl, _, fun w' hw' => hw'.1.at rfl rfl, _, fun w' hw' => hw'.1.at rfl rfl, _, fun w' hw' => hw'.2.at rfl rfl, _, fun w' hw' => hw'.1.at rfl rfl, ?_⟩
        refine tmp9 (ow := ow5) [r.tx, r.prev, r.wp, r.wi, r.sp, r.si, r.id] fun b4 w6 hr6 f6 => ?_
        have eb7 := eb6.fr f6 trivial trivial trivial
        refine ⟨⟨eb7.x1, eb7.x3⟩, put_c (ns := [r.tx, r.prev, r.wp, r.wi, r.sp, r.si, r.id]) ((hs5.fr fd trivial).fr f6 trivial) rfl hr6 rfl hns (by omega) (by simp) fun a6 c6 w7 ow7 hs7 f7 => ⟨_, _, _, rfl, ?_⟩⟩
        have eb8 := eb7.fr f7 (by omega) (by omega) (by omega)
        refine ⟨⟨eb8.x1, eb8.x3⟩, rsign_c hs7 rfl (hsg 8 (by simp)) (by simp only [List.length_append]; omega) fun a8 c8 w8 ow8 hs8 f8 => ⟨_, _, _, rfl, ?_⟩⟩
        have eb9 := eb8.fr f8 (by omega) (by omega) (by omega)
        exact ⟨⟨eb9.x1, eb9.x3⟩, fin _ _ _ _ _ he.symm hs8 eb9.old⟩
      · refine ⟨fun s w' => w' = w5 ∧ s.1 = decide (r.kind = 5 ∨ r.kind = 6 ∨ r.kind = 7), ?_, ?_⟩
        · refine cond_eq (fun e5 => ⟨rfl, ?_⟩) (fun n5 => cond_eq (fun e6 => ⟨rfl, ?_⟩) (fun n6 => ⟨rfl, ?_⟩))
          · rw [decide_eq_true (.inl e5)]
            simp [e5]
          · rw [decide_eq_true (.inr (.inl e6))]
            simp [e6]
          · by_cases e7 : r.kind = 7
            · rw [decide_eq_true (.inr (.inr e7))]
              simp [e7]
            · rw [decide_eq_false (by omega)]
              simp [e7]
        rintro ⟨q, u⟩ w6 ⟨hw6, hq⟩ _
        dsimp only at hq
        subst hq
        rw [hw6]
        refine cond_d (fun e567 => ?_) (fun n567 => ⟨rfl, rfl, by omega⟩)
        have hI : iof r.kind = [2, 3] := by unfold iof; rw [if_neg (by omega), if_neg (by omega), if_neg (by omega), if_pos e567]
        have hS : sof r.kind = [] := by unfold sof; rw [if_neg (by omega), if_neg (by omega)]
        have he : encB r = vform r.kind.toNat ++ codes [r.tx, r.prev] := by
          rw [enc_codes, hI, hS]
          unfold tailB
          rw [if_neg (by omega)]
          simp [RV.gi]
        refine ⟨_, eb5.x1.at rfl rfl, _, eb5.x1.at rfl rfl, tmp9 (ow := ow5) [r.tx, r.prev] fun b4 w6 hr6 f6 => ?_⟩
        refine put_c (ns := [r.tx, r.prev]) (hs5.fr f6 trivial) rfl hr6 rfl (ns_ok _ (by rw [hI]; rfl)) (by omega) (by simp) fun a6 c6 w7 ow7 hs7 f7 => ⟨_, _, _, rfl, ?_⟩
        exact fin _ _ _ _ _ he.symm hs7 ((eb5.old.fr f6 trivial).fr f7 (by omega))
  rintro _ w6 ⟨hw6, hs, e8⟩ _
  subst hs
  dsimp only
  rw [hw6]
  obtain ⟨hl32, hd16, hL, hD⟩ := ok_lists hc0 e8
  have hll := hi.ll
  have hdl := hi.dl
  have hI : iof r.kind = [16] := by unfold iof; rw [if_neg (by omega), if_pos e8]
  have hS : sof r.kind = [] := by unfold sof; rw [if_neg (by omega), if_neg (by omega)]
  have hnx := hints 16 (by rw [hI]; simp)
  have hnx : 0 ≤ r.next ∧ r.next ≤ 2147483648 := ⟨hnx.1, hnx.2.1⟩
  have he : encB r = vform r.kind.toNat ++ codes [r.next, (r.live.length : Int)] ++ r.live.flatMap lvB ++ codes [(r.dirty.length : Int)] ++ r.dirty.flatMap dvB := by
    rw [enc_codes, hI, hS]
    unfold tailB
    rw [if_pos e8]
    simp [RV.gi, codes]
  have llv : ∀ x ∈ r.live, (lvB x).length ≤ 30 := fun x hx => by
    have hh := hL x hx
    have h1 := vlen31 (n := x.tx.toNat) (by omega)
    have h2 := vlen31 (n := x.last.toNat) (by omega)
    have h3 : (vform (stN x)).length ≤ 10 := vlen31 (by unfold stN; split <;> (try split) <;> omega)
    unfold lvB
    simp only [List.length_append]
    omega
  have ldv : ∀ x ∈ r.dirty, (dvB x).length ≤ 20 := fun x hx => by
    have hh := hD x hx
    have h1 := vlen31 (n := x.page.toNat) (by omega)
    have h2 := vlen31 (n := x.since.toNat) (by omega)
    unfold dvB
    simp only [List.length_append]
    omega
  refine ⟨_, eb5.x1.at rfl rfl, _, _, _, eb5.x1.at rfl rfl, ?_⟩
  rw [← hll]
  refine tmp9 (ow := ow5) [r.next, (r.live.length : Int)] fun b4 w7 hr7 f7 => ?_
  have hns : ∀ n ∈ [r.next, (r.live.length : Int)], 0 ≤ n ∧ n ≤ 2147483648 := fun n hn => by
    simp only [List.mem_cons, List.mem_nil_iff, or_false] at hn
    rcases hn with rfl | rfl <;> omega
  have lc := codes_len hns
  simp only [List.length_cons, List.length_nil] at lc
  refine put_c (ns := [r.next, (r.live.length : Int)]) (hs5.fr f7 trivial) rfl hr7 rfl hns (by omega) (by simp) fun a6 c6 w8 ow8 hs8 f8 => ⟨_, _, _, rfl, ?_⟩
  have eb8 := (eb5.fr f7 trivial trivial trivial).fr f8 (by omega) (by omega) (by omega)
  generalize hp : vform r.kind.toNat ++ codes [r.next, (r.live.length : Int)] = pre at he hs8 ⊢
  have lpre : pre.length ≤ 40 := by rw [← hp, List.length_append]; omega
  refine loopN (fun s w' => ∃ k : Nat, k ≤ r.live.length ∧ ∃ a c ow, s = ((a, (pre ++ (r.live.take k).flatMap lvB).length, c), (k : Int), ()) ∧ SlT w' ow T_uint8 1 a (pre ++ (r.live.take k).flatMap lvB).length c (bvs (pre ++ (r.live.take k).flatMap lvB)) 2 ∧ Eb w w' ow b1 b3 r m) (fun s _ => r.live.length - s.2.1.toNat)
    ⟨0, Nat.zero_le _, a6, c6, ow8, by simp, by simpa using hs8, eb8⟩ ?_
  rintro s w9 ⟨k, hk, a9, c9, ow9, rfl, hs9, eb9⟩ _
  dsimp only
  have lk : ((r.live.take k).flatMap lvB).length ≤ 960 := by
    have := flat_len (f := lvB) (n := 30) (L := r.live.take k) fun x hx => llv x (List.mem_of_mem_take hx)
    rw [List.length_take] at this
    omega
  refine ⟨_, _, _, eb9.x1.at rfl rfl, cond_d (fun hlt => ?_) (fun hge => ?_)⟩
  · have hkl : k < r.live.length := by omega
    have hx := hL _ (List.getElem_mem hkl)
    refine ⟨_, _, _, eb9.x1.at rfl rfl, rd_el LV.csl (by omega) (lis eb9.old).l hkl hll fun b o ha hcl => ?_⟩
    have cell : ∀ q v, (r.live[k]).cs[q]? = some v → w9.cell? (Addr.add ((⟨b, o, none⟩ : Addr).add (Int.toNat (k : Int) * 4)) q) = some v := fun q v hv => by
      rw [Int.toNat_natCast, add_at, add_at]; exact hcl q v hv
    have cell0 : w9.cell? ((⟨b, o, none⟩ : Addr).add (Int.toNat (k : Int) * 4)) = some (.int .i64 (r.live[k]).tx) := by
      rw [Int.toNat_natCast, add_at]; exact hcl 0 _ rfl
    refine ⟨_, _, _, _, ⟨cell0, cell 1 _ rfl, cell 2 _ rfl, cell 3 _ rfl, trivial⟩, ?_⟩
    refine lv_cp r.live[k] fun b9 wa ha9 => ?_
    have fa : Fro (fun _ => True) w9 ow9 wa (ext ow9 w9.heap.size 9) := Fro.of_kp0 9 ha9.kp
    have hsa := hs9.fr fa trivial
    have eba := eb9.fr fa trivial trivial trivial
    generalize ext ow9 w9.heap.size 9 = owa at *
    have hcu : ¬ ((r.live[k]).c = true ∧ (r.live[k]).u = true) := by
      obtain ⟨_, _, ho⟩ := chk_kind hc0
      unfold okB at ho
      rw [if_neg (by omega), if_pos e8] at ho
      simp only [Bool.and_eq_true, cpB] at ho
      have hli := ho.2.1.1.2
      have : ∀ (last : Int) (L : List LV), liB r.next r.lsn last L = true → ∀ x ∈ L, ¬ (x.c = true ∧ x.u = true) := by
        intro last L
        induction L generalizing last with
        | nil => intro _ x hx; cases hx
        | cons y t ih =>
          intro h x hx
          simp only [liB, Bool.and_eq_true, Bool.not_eq_true'] at h
          rcases List.mem_cons.1 hx with rfl | hx
          · intro hh
            have := h.1.2
            rw [hh.1, hh.2] at this
            cases this
          · exact ih _ h.2 x hx
      exact this _ _ hli _ (List.getElem_mem hkl)
    refine ⟨fun s w' => w' = wa ∧ s.1 = if (r.live[k]).c then 1 else 0, ?_, ?_⟩
    · exact ⟨_, ha9.at rfl rfl, cond_b (fun q => ⟨rfl, by rw [if_pos q]⟩) (fun q => ⟨rfl, by rw [q]; rfl⟩)⟩
    rintro ⟨q1, u1⟩ wb ⟨hwb, hq1⟩ _
    dsimp only at hq1
    rw [hwb]
    refine ⟨fun s w' => w' = wa ∧ s.1 = (stN r.live[k] : Int), ?_, ?_⟩
    · refine ⟨_, ha9.at rfl rfl, cond_b (fun q => ⟨rfl, ?_⟩) (fun q => ⟨rfl, ?_⟩)⟩
      · have : (r.live[k]).c = false := by
          cases h : (r.live[k]).c
          · rfl
          · exact absurd ⟨h, q⟩ hcu
        unfold stN
        rw [this, q]
        rfl
      · dsimp only
        rw [hq1]
        unfold stN
        rw [q]
        cases (r.live[k]).c <;> rfl
    rintro ⟨q2, u2⟩ wc ⟨hwc, hq2⟩ _
    dsimp only at hq2
    subst hq2
    rw [hwc]
    have hst : stN r.live[k] ≤ 2 := by unfold stN; split <;> (try split) <;> omega
    refine ⟨_, ha9.at rfl rfl, _, ha9.at rfl rfl, tmp9 (ow := owa) [(r.live[k]).tx, (r.live[k]).last, (stN r.live[k] : Int)] fun bd wd hrd fd => ?_⟩
    have hns : ∀ n ∈ [(r.live[k]).tx, (r.live[k]).last, (stN r.live[k] : Int)], 0 ≤ n ∧ n ≤ 2147483648 := fun n hn => by
      simp only [List.mem_cons, List.mem_nil_iff, or_false] at hn
      rcases hn with rfl | rfl | rfl <;> omega
    refine put_c (ns := [(r.live[k]).tx, (r.live[k]).last, (stN r.live[k] : Int)]) (hsa.fr fd trivial) rfl hrd rfl hns (by rw [List.length_append]; omega) (by simp) fun ae ce we owe hse fe => ⟨_, _, _, rfl, ?_⟩
    have hcd : pre ++ (r.live.take k).flatMap lvB ++ codes [(r.live[k]).tx, (r.live[k]).last, (stN r.live[k] : Int)] = pre ++ (r.live.take (k + 1)).flatMap lvB := by
      rw [flat_snoc hkl]
      simp [codes, lvB]
    rw [hcd] at hse ⊢
    rw [wk1 hkl (by omega)]
    exact ⟨⟨k + 1, by omega, _, _, _, rfl, hse, (eba.fr fd trivial trivial trivial).fr fe (by omega) (by omega) (by omega)⟩, by simp only [Int.toNat_natCast]; omega⟩
  have hke : k = r.live.length := by omega
  subst hke
  rw [List.take_length] at hs9 lk ⊢
  refine ⟨_, _, _, eb9.x1.at rfl rfl, ?_⟩
  rw [← hdl]
  refine tmp9 (ow := ow9) [(r.dirty.length : Int)] fun ba wa hra fa => ?_
  have hns : ∀ n ∈ [(r.dirty.length : Int)], 0 ≤ n ∧ n ≤ 2147483648 := fun n hn => by
    simp only [List.mem_cons, List.mem_nil_iff, or_false] at hn
    omega
  have lc := codes_len hns
  simp only [List.length_cons, List.length_nil] at lc
  refine put_c (ns := [(r.dirty.length : Int)]) (hs9.fr fa trivial) rfl hra rfl hns (by rw [List.length_append]; omega) (by simp) fun ab cb wb owb hsb fb => ⟨_, _, _, rfl, ?_⟩
  have ebb := (eb9.fr fa trivial trivial trivial).fr fb (by omega) (by omega) (by omega)
  generalize hp2 : pre ++ r.live.flatMap lvB ++ codes [(r.dirty.length : Int)] = pre2 at he hsb ⊢
  have lpre2 : pre2.length ≤ 1100 := by rw [← hp2]; simp only [List.length_append]; omega
  refine loopN (fun s w' => ∃ k : Nat, k ≤ r.dirty.length ∧ ∃ a c ow, s = ((a, (pre2 ++ (r.dirty.take k).flatMap dvB).length, c), (k : Int), ()) ∧ SlT w' ow T_uint8 1 a (pre2 ++ (r.dirty.take k).flatMap dvB).length c (bvs (pre2 ++ (r.dirty.take k).flatMap dvB)) 2 ∧ Eb w w' ow b1 b3 r m) (fun s _ => r.dirty.length - s.2.1.toNat)
    ⟨0, Nat.zero_le _, ab, cb, owb, by simp, by simpa using hsb, ebb⟩ ?_
  rintro s w9 ⟨k, hk, a9, c9, ow9, rfl, hs9, eb9⟩ _
  dsimp only
  have lk : ((r.dirty.take k).flatMap dvB).length ≤ 320 := by
    have := flat_len (f := dvB) (n := 20) (L := r.dirty.take k) fun x hx => ldv x (List.mem_of_mem_take hx)
    rw [List.length_take] at this
    omega
  refine ⟨_, _, _, eb9.x1.at rfl rfl, cond_d (fun hlt => ?_) (fun hge => ?_)⟩
  · have hkl : k < r.dirty.length := by omega
    have hx := hD _ (List.getElem_mem hkl)
    refine ⟨fun w' => Blk w' b1 (r.ca m) T_api_Record ∧ Kp no w w', ⟨eb9.x1, eb9.old.kp.trans0 (Kp.drew w9 1)⟩, _, _, _, fun w' hw' => hw'.1.at rfl rfl, rd_el DV.csl (by omega) (lis eb9.old).d hkl hdl fun b o ha hcl => ⟨(r.dirty[k]).page, fun w' hw' => ?_, ?_⟩⟩
    · refine rd_el (K := fun d1 => w'.cell? (d1.add (Int.toNat (k : Int) * 2)) = some (.int .i64 (r.dirty[k]).page)) DV.csl (by omega) (hi.kp0 hw'.2).d hkl hdl (fun b' o' ha' hcl' => by rw [Int.toNat_natCast, add_at]; exact hcl' 0 _ rfl) |>.2.2.elim fun ad h => ?_
      rw [h.1] at ha
      cases ha
      exact h.2
    refine ⟨_, _, _, fun w' hw' => hw'.1.at rfl rfl, rd_el DV.csl (by omega) (lis eb9.old).d hkl hdl fun b o ha hcl => ⟨(r.dirty[k]).since, fun w' hw' => ?_, ?_⟩⟩
    · refine rd_el (K := fun d1 => w'.cell? (Addr.add (d1.add (Int.toNat (k : Int) * 2)) 1) = some (.int .i64 (r.dirty[k]).since)) DV.csl (by omega) (hi.kp0 hw'.2).d hkl hdl (fun b' o' ha' hcl' => by rw [Int.toNat_natCast, add_at, add_at]; exact hcl' 1 _ rfl) |>.2.2.elim fun ad h => ?_
      rw [h.1] at ha
      cases ha
      exact h.2
    have fd : Fro (fun _ => True) w9 ow9 w9.drew ow9 := Fro.of_kp' (Kp.drew w9 1) fun _ _ h => h.elim
    have ebd := eb9.fr fd trivial trivial trivial
    refine tmp9 (ow := ow9) [(r.dirty[k]).page, (r.dirty[k]).since] fun bd wd hrd fe => ?_
    have ebe := ebd.fr fe trivial trivial trivial
    have hns : ∀ n ∈ [(r.dirty[k]).page, (r.dirty[k]).since], 0 ≤ n ∧ n ≤ 2147483648 := fun n hn => by
      simp only [List.mem_cons, List.mem_nil_iff, or_false] at hn
      rcases hn with rfl | rfl <;> omega
    refine ⟨⟨ebe.x1, ebe.old.kp⟩, put_c (ns := [(r.dirty[k]).page, (r.dirty[k]).since]) ((hs9.fr fd trivial).fr fe trivial) rfl hrd rfl hns (by rw [List.length_append]; omega) (by simp) fun ae ce we owe hse ff => ⟨_, _, _, rfl, ?_⟩⟩
    have hcd : pre2 ++ (r.dirty.take k).flatMap dvB ++ codes [(r.dirty[k]).page, (r.dirty[k]).since] = pre2 ++ (r.dirty.take (k + 1)).flatMap dvB := by
      rw [flat_snoc hkl]
      simp [codes, dvB]
    rw [hcd] at hse ⊢
    rw [wk1 hkl (by omega)]
    have ebf := ebe.fr ff (by omega) (by omega) (by omega)
    exact ⟨⟨ebf.x1, ebf.old.kp⟩, ⟨k + 1, by omega, _, _, _, rfl, hse, ebf⟩, by simp only [Int.toNat_natCast]; omega⟩
  have hke : k = r.dirty.length := by omega
  subst hke
  rw [List.take_length] at hs9 ⊢
  exact fin _ _ _ _ _ he.symm hs9 eb9.old
end Go.Proofs.Ytjhncijdkmbopaa
