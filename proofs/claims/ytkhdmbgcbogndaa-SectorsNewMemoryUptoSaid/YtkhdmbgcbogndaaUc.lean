/- The statement SectorsArmed. Conditions: none. -/
import Derived.Test.YtkhdmbgcbogndaaUb
set_option linter.unusedVariables false
set_option linter.unusedSimpArgs false
namespace Go.Proofs.Ytkhdmbgcbogndaa
open Go Go.RowKit

theorem Dv.Ok.fall_n {v : Dv} (h : v.Ok) (keep : List Nat) (torn off : Int) : (v.fall keep torn off).n = v.n := Dv.n_of (fallL_len keep torn off v.n v.q 0 v.img h.len h.q)
theorem Dv.Ok.synced_n {v : Dv} (h : v.Ok) : v.synced.n = v.n := Dv.n_of (syncL_len v.n v.q v.img h.len h.q)
/-- The armed disk and the other one: i calls are done; the k-th crashes. -/
structure ArA (k i N : Nat) (keep : List Nat) (torn off : Int) (v u : Dv) : Prop where
  img : v.img = u.img
  q : v.q = u.q
  d : v.down = false
  ud : u.down = false
  us : u.step = 0
  s : v.step = (k : Int) - (i : Int)
  keep : v.keep = keep
  torn : v.torn = torn
  off : v.off = off
  c : v.calls = (i : Int)
  uk : u.keep = []
  n : v.n = N
structure ArB (k i N : Nat) (keep : List Nat) (torn off : Int) (v u : Dv) : Prop where
  d : v.down = true
  q : v.q = []
  c : v.calls = (k : Int)
  img : v.img = fallL keep torn off 0 u.q u.img
  ud : u.down = false
  uk : u.keep = []
  k : v.keep = []
def AR (k i N : Nat) (keep : List Nat) (torn off : Int) (v u : Dv) : Prop := (i < k ∧ ArA k i N keep torn off v u) ∨ (k ≤ i ∧ ArB k i N keep torn off v u)
section
variable {k i N : Nat} {keep : List Nat} {torn off : Int} {v u : Dv}
theorem ArA.bump (h : ArA k i N keep torn off v u) (hi : i < 1000000) : v.bump.calls = ((i + 1 : Nat) : Int) := by
  show IntKind.wrap .i64 (v.calls + 1) = _
  rw [h.c, wrap_i64 (by omega) (by omega)]
  omega
theorem ArA.sync_last (h : ArA k i N keep torn off v u) (hi : i < 1000000) (hk : i + 1 = k) : v.sync.1 = 40 ∧ ArB k (i + 1) N keep torn off v.sync.2 u := by
  have e : v.sync = (40, v.bump.fall v.keep v.torn v.off) := by unfold Dv.sync; rw [h.d, if_neg (by decide), if_pos (by rw [h.s]; omega)]
  rw [e]
  have hb := h.bump hi
  refine ⟨rfl, rfl, rfl, ?_, ?_, h.ud, h.uk, rfl⟩
  · show v.bump.calls = _
    rw [hb]; omega
  · show fallL v.keep v.torn v.off 0 v.q v.img = _
    rw [h.keep, h.torn, h.off, h.q, h.img]
theorem ArA.sync_more (h : ArA k i N keep torn off v u) (ho : v.Ok) (hi : i < 1000000) (hk : i + 1 < k) : v.sync.1 = 0 ∧ u.sync.1 = 0 ∧ ArA k (i + 1) N keep torn off v.sync.2 u.sync.2 := by
  have e : v.sync = (0, v.bump.synced) := by unfold Dv.sync; rw [h.d, if_neg (by decide), if_neg (by rw [h.s]; omega)]
  have e' : u.sync = (0, u.bump.synced) := by unfold Dv.sync; rw [h.ud, if_neg (by decide), if_neg (by rw [h.us]; decide)]
  rw [e, e']
  have hb := h.bump hi
  refine ⟨rfl, rfl, ?_, rfl, h.d, h.ud, ?_, ?_, h.keep, h.torn, h.off, hb, h.uk, ?_⟩
  · show syncL v.q v.img = syncL u.q u.img
    rw [h.q, h.img]
  · show (if u.step = 0 then (0 : Int) else u.step - 1) = 0
    rw [if_pos h.us]
  · show (if v.step = 0 then (0 : Int) else v.step - 1) = _
    rw [if_neg (by rw [h.s]; omega), h.s]
    omega
  · rw [ho.bump.synced_n]
    exact h.n
theorem ArA.write_last (h : ArA k i N keep torn off v u) (ho : v.Ok) (hun : u.n = N) (hi : i < 1000000) (hk : i + 1 = k) {x : Int} {bs : List UInt8} (hx : 0 ≤ x ∧ x < (N : Int)) (hb : bs.length = 512) : (v.write x bs).1 = 40 ∧ (u.write x bs).1 = 0 ∧ ArB k (i + 1) N keep torn off (v.write x bs).2 (u.write x bs).2 := by
  have hth : v.there x := by unfold Dv.there; rw [h.n]; exact hx
  have hut : u.there x := by unfold Dv.there; rw [hun]; exact hx
  have e : v.write x bs = (40, (v.bump.add x bs).fall v.keep v.torn v.off) := by
    unfold Dv.write
    rw [h.d, if_neg (by decide), if_neg (by simpa using hth), if_neg (by omega), if_pos (by rw [h.s]; omega)]
  have e' := write_ok h.ud h.us hut hb
  rw [e, e']
  have hbc := h.bump hi
  refine ⟨rfl, rfl, rfl, rfl, ?_, ?_, h.ud, h.uk, rfl⟩
  · show v.bump.calls = _
    rw [hbc]; omega
  · show fallL v.keep v.torn v.off 0 (v.q ++ [(x, bs)]) v.img = fallL keep torn off 0 (u.q ++ [(x, bs)]) u.img
    rw [h.keep, h.torn, h.off, h.q, h.img]
theorem ArA.write_more (h : ArA k i N keep torn off v u) (hun : u.n = N) (hi : i < 1000000) (hk : i + 1 < k) {x : Int} {bs : List UInt8} (hx : 0 ≤ x ∧ x < (N : Int)) (hb : bs.length = 512) : (v.write x bs).1 = 0 ∧ (u.write x bs).1 = 0 ∧ ArA k (i + 1) N keep torn off (v.write x bs).2 (u.write x bs).2 := by
  have hth : v.there x := by unfold Dv.there; rw [h.n]; exact hx
  have hut : u.there x := by unfold Dv.there; rw [hun]; exact hx
  have e : v.write x bs = (0, v.bump.add x bs) := by
    unfold Dv.write
    rw [h.d, if_neg (by decide), if_neg (by simpa using hth), if_neg (by omega), if_neg (by rw [h.s]; omega)]
  have e' := write_ok h.ud h.us hut hb
  rw [e, e']
  have hbc := h.bump hi
  refine ⟨rfl, rfl, h.img, ?_, h.d, h.ud, ?_, ?_, h.keep, h.torn, h.off, hbc, h.uk, h.n⟩
  · show v.q ++ [(x, bs)] = u.q ++ [(x, bs)]
    rw [h.q]
  · show (if u.step = 0 then (0 : Int) else u.step - 1) = 0
    rw [if_pos h.us]
  · show (if v.step = 0 then (0 : Int) else v.step - 1) = _
    rw [if_neg (by rw [h.s]; omega), h.s]
    omega
theorem ArB.stay (h : ArB k i N keep torn off v u) : v.sync = (40, v) ∧ ∀ x bs, v.write x bs = (40, v) := by
  refine ⟨by unfold Dv.sync; rw [if_pos h.d], fun x bs => by unfold Dv.write; rw [if_pos h.d]⟩
theorem ArB.next (h : ArB k i N keep torn off v u) : ArB k (i + 1) N keep torn off v u := ⟨h.d, h.q, h.c, h.img, h.ud, h.uk, h.k⟩
end

/-- Both of a put's fields. -/
theorem pu_both {w : World} {a : Option Addr} {M : List PU} (h : Rd w a (fU M)) {k : Nat} (hk : k < M.length) {n : Int} (hn : n = (k : Int)) {l : Nat} (hl : M.length = l) {K : Int → Int → Prop} (hK : K (M[k]).i ((M[k]).f.toNat : Int)) : IdxF a n l fun d => ∃ (m1 : Int) (m2 : Int), (w.cell? (d.add (Int.toNat n * 2)) = some (.int .i64 m1) ∧ w.cell? (Addr.add (d.add (Int.toNat n * 2)) 1) = some (.int .u8 m2) ∧ True) ∧ K m1 m2 := by
  subst hn
  obtain ⟨b, o, ha, h1, h2⟩ := puI (S := fun w' => w' = w) rfl (fun w' e => by rw [e]; exact h) hk
  exact ⟨by omega, by omega, _, ha, _, _, ⟨by rw [Int.toNat_natCast]; exact h1 w rfl, by rw [Int.toNat_natCast]; exact h2 w rfl, trivial⟩, hK⟩

theorem Dv.write_n {v : Dv} (h : v.Ok) (i : Int) (bs : List UInt8) : (v.write i bs).2.n = v.n := by
  unfold Dv.write
  split
  · rfl
  · split
    · rfl
    · rename_i hi
      split
      · rfl
      · rename_i hb
        split
        · exact (h.bump.add (i := i) (b := bs) (Decidable.not_not.1 hi) (Decidable.not_not.1 hb)).fall_n _ _ _
        · rfl
theorem Dv.sync_n {v : Dv} (h : v.Ok) : v.sync.2.n = v.n := by
  unfold Dv.sync
  split
  · rfl
  · split
    · exact h.bump.fall_n _ _ _
    · exact h.bump.synced_n
theorem Dv.sync_q (v : Dv) : v.sync.2.q.length ≤ v.q.length := by
  unfold Dv.sync
  split
  · exact Nat.le_refl _
  · split <;> simp [Dv.fall, Dv.synced]
theorem Kl.sync {v : Dv} (h : Kl v) : Kl v.sync.2 := by
  unfold Dv.sync
  split
  · exact h
  · split
    · simp [Kl, Dv.fall]
    · exact h

set_option maxRecDepth 100000 in
theorem armed_c {w : World} {size syncs at_ : Int} {a1 a2 : Option Addr} {l1 c1 l2 c2 : Nat} {L1 : List PU} {keep : List Nat} {torn off : Int} {R : Ending → World → Prop} (hsz : -9223372036854775808 ≤ size ∧ size ≤ 9223372036854775807) (hsy : -9223372036854775808 ≤ syncs ∧ syncs ≤ 9223372036854775807) (hat : -9223372036854775808 ≤ at_ ∧ at_ ≤ 9223372036854775807)
    (h1 : PutsOk w a1 l1 c1 L1) (h2 : LossOk w a2 l2 keep torn off) (h : ∀ w', Kp no w w' → R (.returned (.bool true)) w') :
    GoC Try.prog F_law03_SectorsArmed #[.int .i64 size, .slice a1 l1 c1, .int .i64 syncs, .int .i64 at_, .agg #[.slice a2 l2 c2, .int .i64 torn, .int .i64 off]] w R := by
  refine S_law03_SectorsArmed ?_
  unfold W_law03_SectorsArmed
  have h2n := h2.n
  subst h2n
  refine AlF.intro fun b1 w1 hb1e hb1 k1 s1 => ?_
  have hO1 : Old w w1 (ext (fun _ => 0) w.heap.size 1) := ⟨k1, fun k hk => ext_old hk⟩
  have ht1 : ext (fun _ => 0) w.heap.size 1 b1 = 1 := ext_new (by omega)
  generalize ext (fun _ => 0) w.heap.size 1 = ow1 at *
  have hb9 := brought9 (x := size)
  refine brought_c (n := 9) (by decide) (by decide) hsz.1 hsz.2 ⟨_, rfl, ?_⟩
  obtain ⟨N, hN⟩ : ∃ N : Nat, (N : Int) = 1 + size % 9 := ⟨(1 + size % 9).toNat, by omega⟩
  have hw9 : IntKind.wrap .i64 (1 + size % 9) = (N : Int) := by rw [wrap_i64 (by omega) (by omega)]; exact hN.symm
  rw [hw9]
  refine new_c (n := N) (ow := ow1) (by omega) (by omega) 50 fun b w3 ow3 hD3 k3 ho3 hb3 => ⟨_, _, rfl, ?_⟩
  have f3 : Fro (fun _ => True) w1 ow1 w3 ow3 := Fro.new k3 ho3
  have hO3 := hO1.fr f3 trivial
  obtain ⟨hb13, ht13⟩ := blk_fr hb1 ht1 f3 trivial
  refine new_c (n := N) (ow := ow3) (by omega) (by omega) 60 fun bc w4 ow4 hC4 k4 ho4 hb4 => ⟨_, _, rfl, cond_f rfl (cond_f rfl (num_c ⟨_, rfl, cond_f rfl (num_c ⟨_, rfl, cond_f rfl ?_⟩)⟩))⟩
  have f4 : Fro (fun _ => True) w3 ow3 w4 ow4 := Fro.new k4 ho4
  have hO4 := hO3.fr f4 trivial
  have hD4 := hD3.fr f4 trivial trivial trivial trivial
  obtain ⟨hb14, ht14⟩ := blk_fr hb13 ht13 f4 trivial
  refine awake_c fun w7 k7 => ⟨_, rfl, cond_f rfl ?_⟩
  have hO7 := hO4.fr (Fro.kp0 k7) trivial
  have hD7 := hD4.kp0 k7
  have hC7 := hC4.kp0 k7
  have hb17 := k7.blk hb14 id
  refine cutPuts_c h1.lc fun c3 => ⟨_, _, _, rfl, ?_⟩
  have hm1 : (L1.take 120).length = min l1 120 := by rw [List.length_take, h1.n, Nat.min_comm]
  have hR1 : Rd w a1 (fU (L1.take 120)) := h1.rd.take' 120
  have hok1 : ∀ x ∈ L1.take 120, x.Ok := fun x hx => h1.ok x (List.mem_of_mem_take hx)
  have h120 : (L1.take 120).length ≤ 120 := by omega
  rw [← hm1]
  generalize L1.take 120 = M at *
  have hlw : IntKind.wrap .i64 (((M.length : Nat) : Int) + 1) = ((M.length + 1 : Nat) : Int) := by rw [wrap_i64 (by omega) (by omega)]; omega
  rw [hlw]
  refine brought_c (by omega) (by omega) hat.1 hat.2 ⟨_, rfl, ?_⟩
  have hka := mod_in (i := at_) (n := ((M.length + 1 : Nat) : Int)) (by omega)
  obtain ⟨K, hKe⟩ : ∃ K : Nat, (K : Int) = 1 + at_ % ((M.length + 1 : Nat) : Int) := ⟨(1 + at_ % ((M.length + 1 : Nat) : Int)).toNat, by omega⟩
  have hwK : IntKind.wrap .i64 (1 + at_ % ((M.length + 1 : Nat) : Int)) = (K : Int) := by rw [wrap_i64 (by omega) (by omega)]; exact hKe.symm
  rw [hwK]
  have hK1 : 1 ≤ K := by omega
  have hK2 : K ≤ M.length + 1 := by omega
  have hU : ∀ u, u = 0 → Td 50 u := fun u hu => by subst hu; decide
  have hU6 : ∀ u, u = 0 → Td 60 u := fun u hu => by subst hu; decide
  have lk : keep.length * 8 ≤ 140737488355328 := by have := h2.ln; omega
  refine ⟨_, _, _, _, _, ⟨c0 hb17 rfl, cN hb17 rfl, cN hb17 rfl, trivial⟩, ?_⟩
  refine arm_c (v := Dv.new N) (keep := keep) hD7 ⟨(hO7.rdT h2.rd).mono hU, h2.lt, lk, h2.nn⟩ (by omega) fun w10 ow10 hD10 f10 => ⟨_, rfl, ?_⟩
  have ea : (Dv.new N).arm (K : Int) keep torn off = (0, { Dv.new N with step := (K : Int), keep := keep, torn := torn, off := off }) := by
    unfold Dv.arm
    rw [show (Dv.new N).down = false from rfl, if_neg (by decide), if_neg (by omega)]
    rfl
  rw [ea] at hD10 ⊢
  replace hD10 : DX w10 ow10 50 b { Dv.new N with step := (K : Int), keep := keep, torn := torn, off := off } := hD10
  have hA10 : ArA K 0 N keep torn off { Dv.new N with step := (K : Int), keep := keep, torn := torn, off := off } (Dv.new N) :=
    ⟨rfl, rfl, rfl, rfl, rfl, by show (K : Int) = (K : Int) - ((0 : Nat) : Int); omega, rfl, rfl, rfl, rfl, rfl, new_n N⟩
  have hq10 : ({ Dv.new N with step := (K : Int), keep := keep, torn := torn, off := off } : Dv).q.length ≤ 0 := by simp [Dv.new]
  have hkl10 : Kl ({ Dv.new N with step := (K : Int), keep := keep, torn := torn, off := off } : Dv) := lk
  generalize ({ Dv.new N with step := (K : Int), keep := keep, torn := torn, off := off } : Dv) = v10 at *
  refine num_c ⟨_, rfl, cond_f rfl ?_⟩
  have hO10 := hO7.fr f10 (by decide)
  have hC10 := hC7.fr f10 (by decide) (by decide) (by decide) (by decide)
  obtain ⟨hb110, ht110⟩ := blk_fr hb17 ht14 f10 (by decide)
  have hbs := brought9 (x := syncs)
  refine brought_c (n := 9) (by decide) (by decide) hsy.1 hsy.2 ⟨_, rfl, ?_⟩
  have hwE : IntKind.wrap .i64 (1 + syncs % 9) = 1 + syncs % 9 := wrap_i64 (by omega) (by omega)
  rw [hwE]
  refine loopN (fun s w' => ∃ (i : Nat) (ow' : Nat → Nat) (v u : Dv), s.1 = ((i + 1 : Nat) : Int) ∧ i ≤ M.length ∧ DX w' ow' 50 b v ∧ DX w' ow' 60 bc u ∧ Old w w' ow' ∧ AR K i N keep torn off v u ∧ u.n = N ∧ Kl v ∧ v.q.length ≤ i ∧ u.q.length ≤ i ∧ Blk w' b1 #[.slice a2 keep.length c2, .int .i64 torn, .int .i64 off] T_api_Loss ∧ ow' b1 = 1) (fun s _ => M.length + 1 - s.1.toNat)
    ⟨0, ow10, v10, Dv.new N, rfl, by omega, hD10, hC10, hO10, .inl ⟨by omega, hA10⟩, new_n N, hkl10, hq10, by simp [Dv.new], hb110, ht110⟩ ?_
  rintro ⟨k0, u'⟩ w13 ⟨i, ow13, v, u, hk0, hi, hD, hC, hO, hAR, hun, hKl, hqv, hqu, hb13', ht13'⟩ _
  dsimp only at hk0 ⊢
  subst hk0
  have hKu : ∀ x y, ArA K i N keep torn off x y → Kl y := fun x y hh => by simp [Kl, hh.uk]
  have hKu' : Kl u := by
    have : u.keep = [] := by
      rcases hAR with ⟨_, hA⟩ | ⟨_, hB⟩
      · exact hA.uk
      · exact hB.uk
    simp [Kl, this]
  refine cond_d (fun hlt => ?_) (fun hge => ?_)
  · have hil : i < M.length := by omega
    have hiw : IntKind.wrap .i64 (((i + 1 : Nat) : Int) - 1) = (i : Int) := by rw [wrap_i64 (by omega) (by omega)]; omega
    have hiw2 : IntKind.wrap .i64 (((i + 1 : Nat) : Int) + 1) = ((i + 1 + 1 : Nat) : Int) := by rw [wrap_i64 (by omega) (by omega)]; omega
    rw [hiw, hiw2]
    have hxo := hok1 _ (List.getElem_mem hil)
    refine pu_both (hR1.kp0 hO.kp) hil rfl rfl ?_
    generalize M[i] = x at *
    refine AlF.intro fun b2 w14 hb2e hb2 k14 s14 => st2 hb2 fun w16 hb216 k16 s16 => ?_
    have k1316 : Kp no w13 w16 := kp_blk k14 (by omega) k16
    have f16 : Fro (fun _ => True) w13 ow13 w16 (ext ow13 w13.heap.size 1) := Fro.of_kp0 1 k1316
    have ht2 : ext ow13 w13.heap.size 1 b2 = 1 := ext_new (by omega)
    have hD16 := hD.fr f16 trivial trivial trivial trivial
    have hC16 := hC.fr f16 trivial trivial trivial trivial
    have hO16 := hO.fr f16 trivial
    obtain ⟨hb116, ht116⟩ := blk_fr hb13' ht13' f16 trivial
    generalize ext ow13 w13.heap.size 1 = ow16 at *
    have el : lenO 0 = 512 := by decide
    refine ⟨_, cN hb216 rfl, filled_c (f := x.f) fun a5 w17 hs17 k17 fr17 => ⟨_, _, _, rfl, ?_⟩⟩
    rw [el] at hs17 ⊢
    have f17 : Fro (fun _ => True) w16 ow16 w17 (ext ow16 w16.heap.size 1) := Fro.of_kp0 1 k17
    have hA17 : SlT w17 (ext ow16 w16.heap.size 1) T_uint8 1 a5 512 512 (bvs (fillN x.f 512)) 1 := SlT.new hs17 fr17 1
    have hD17 := hD16.fr f17 trivial trivial trivial trivial
    have hC17 := hC16.fr f17 trivial trivial trivial trivial
    have hO17 := hO16.fr f17 trivial
    obtain ⟨hb117, ht117⟩ := blk_fr hb116 ht116 f17 trivial
    obtain ⟨hb217, ht217⟩ := blk_fr hb216 ht2 f17 trivial
    generalize ext ow16 w16.heap.size 1 = ow17 at *
    have hfl : (fillN x.f 512).length = 512 := fillN_len _ _
    have hmx := mod_in (i := x.i) (n := (N : Int)) (by omega)
    -- behind the call
    refine ⟨fun s w' => (s.1 = if i + 1 < K then 0 else 40) ∧ ∃ (ow' : Nat → Nat) (v' u' : Dv), DX w' ow' 50 b v' ∧ DX w' ow' 60 bc u' ∧ Old w w' ow' ∧ AR K (i + 1) N keep torn off v' u' ∧ u'.n = N ∧ Kl v' ∧ v'.q.length ≤ i + 1 ∧ u'.q.length ≤ i + 1 ∧ Blk w' b1 #[.slice a2 keep.length c2, .int .i64 torn, .int .i64 off] T_api_Loss ∧ ow' b1 = 1, ?_, ?_⟩
    · refine ⟨by omega, cond_eq (fun hs => ?_) (fun hs => ?_)⟩
      · refine sync_c hD17 (by omega) hKl fun w18 ow18 hD18 f18 => ⟨_, rfl, num_c ⟨_, rfl, ?_⟩⟩
        have hC18 := hC17.fr f18 (by decide) (by decide) (by decide) (by decide)
        have hO18 := hO17.fr f18 (by decide)
        obtain ⟨hb118, ht118⟩ := blk_fr hb117 ht117 f18 (by decide)
        have hsq := Dv.sync_q v
        rcases hAR with ⟨hik, hA⟩ | ⟨hik, hB⟩
        · by_cases hkk : i + 1 < K
          · obtain ⟨g1, g2, g3⟩ := hA.sync_more hD.ok (by omega) hkk
            refine cond_t (decide_eq_true (by omega)) (sync_c hC18 (by omega) hKu' fun w20 ow20 hC20 f20 => ⟨_, rfl, num_c ⟨_, rfl, cond_f (by rw [g2]; rfl) ⟨by rw [g1, if_pos hkk]; rfl, ow20, _, _, hD18.fr f20 (by decide) (by decide) (by decide) (by decide), hC20, hO18.fr f20 (by decide), .inl ⟨hkk, g3⟩, by rw [Dv.sync_n hC.ok]; exact hun, hKl.sync, by omega, by have := Dv.sync_q u; omega, (blk_fr hb118 ht118 f20 (by decide)).1, (blk_fr hb118 ht118 f20 (by decide)).2⟩⟩⟩)
          · obtain ⟨g1, g3⟩ := hA.sync_last (by omega) (by omega)
            exact cond_f (decide_eq_false (by omega)) ⟨by rw [g1, if_neg hkk]; rfl, ow18, _, u, hD18, hC18, hO18, .inr ⟨by omega, g3⟩, hun, hKl.sync, by omega, by omega, hb118, ht118⟩
        · obtain ⟨e1, _⟩ := hB.stay
          rw [e1] at hD18 ⊢
          exact cond_f (decide_eq_false (by omega)) ⟨by rw [if_neg (by omega)]; rfl, ow18, v, u, hD18, hC18, hO18, .inr ⟨by omega, hB.next⟩, hun, hKl, by omega, by omega, hb118, ht118⟩
      · refine ⟨_, c0 hb217 rfl, brought_c (by omega) (by omega) hxo.1 hxo.2 ⟨_, rfl, ?_⟩⟩
        refine write_l hD17 (hA17.bs (by decide) (by omega)) hfl (by omega) hKl fun w23 ow23 hD23 f23 => ⟨_, rfl, num_c ⟨_, rfl, ?_⟩⟩
        have hC23 := hC17.fr f23 (by decide) (by decide) (by decide) (by decide)
        have hO23 := hO17.fr f23 (by decide)
        have hA23 := hA17.fr f23 (by decide)
        obtain ⟨hb123, ht123⟩ := blk_fr hb117 ht117 f23 (by decide)
        obtain ⟨hb223, ht223⟩ := blk_fr hb217 ht217 f23 (by decide)
        have hwq := Dv.write_q v (x.i % (N : Int)) (fillN x.f 512)
        have hwqu := Dv.write_q u (x.i % (N : Int)) (fillN x.f 512)
        have hwn := Dv.write_n hC.ok (x.i % (N : Int)) (fillN x.f 512)
        rcases hAR with ⟨hik, hA⟩ | ⟨hik, hB⟩
        · refine cond_t (decide_eq_true (by omega)) ⟨_, c0 hb223 rfl, brought_c (by omega) (by omega) hxo.1 hxo.2 ⟨_, rfl, ?_⟩⟩
          refine write_l hC23 (hA23.bs (by decide) (by omega)) hfl (by omega) hKu' fun w26 ow26 hC26 f26 => ⟨_, rfl, num_c ⟨_, rfl, ?_⟩⟩
          have hD26 := hD23.fr f26 (by decide) (by decide) (by decide) (by decide)
          have hO26 := hO23.fr f26 (by decide)
          obtain ⟨hb126, ht126⟩ := blk_fr hb123 ht123 f26 (by decide)
          by_cases hkk : i + 1 < K
          · obtain ⟨g1, g2, g3⟩ := hA.write_more hun (by omega) hkk hmx hfl
            exact cond_f (by rw [g2]; rfl) ⟨by rw [g1, if_pos hkk]; rfl, ow26, _, _, hD26, hC26, hO26, .inl ⟨hkk, g3⟩, by rw [hwn]; exact hun, hKl.write _ _, by omega, by omega, hb126, ht126⟩
          · obtain ⟨g1, g2, g3⟩ := hA.write_last hD.ok hun (by omega) (by omega) hmx hfl
            exact cond_f (by rw [g2]; rfl) ⟨by rw [g1, if_neg hkk]; rfl, ow26, _, _, hD26, hC26, hO26, .inr ⟨by omega, g3⟩, by rw [hwn]; exact hun, hKl.write _ _, by omega, by omega, hb126, ht126⟩
        · obtain ⟨_, e1⟩ := hB.stay
          rw [e1] at hD23 ⊢
          exact cond_f (decide_eq_false (by omega)) ⟨by rw [if_neg (by omega)]; rfl, ow23, v, u, hD23, hC23, hO23, .inr ⟨by omega, hB.next⟩, hun, hKl, by omega, by omega, hb123, ht123⟩
    rintro ⟨sx, u24⟩ w28 ⟨hsx, ow28, v', u', hD28, hC28, hO28, hAR28, hun28, hKl28, hqv28, hqu28, hb128, ht128⟩ _
    dsimp only at hsx ⊢
    have nxt : (∃ (j : Nat) (ow' : Nat → Nat) (v u : Dv), ((i + 1 + 1 : Nat) : Int) = ((j + 1 : Nat) : Int) ∧ j ≤ M.length ∧ DX w28 ow' 50 b v ∧ DX w28 ow' 60 bc u ∧ Old w w28 ow' ∧ AR K j N keep torn off v u ∧ u.n = N ∧ Kl v ∧ v.q.length ≤ j ∧ u.q.length ≤ j ∧ Blk w28 b1 #[.slice a2 keep.length c2, .int .i64 torn, .int .i64 off] T_api_Loss ∧ ow' b1 = 1) ∧ M.length + 1 - Int.toNat ((i + 1 + 1 : Nat) : Int) < M.length + 1 - Int.toNat ((i + 1 : Nat) : Int) :=
      ⟨⟨i + 1, ow28, v', u', rfl, by omega, hD28, hC28, hO28, hAR28, hun28, hKl28, hqv28, hqu28, hb128, ht128⟩, by simp only [Int.toNat_natCast]; omega⟩
    by_cases hkk : i + 1 < K
    · have hdn : v'.down = false := by rcases hAR28 with ⟨_, hA⟩ | ⟨hh, _⟩; exact hA.d; omega
      rw [hsx, if_pos hkk]
      refine cond_f (by rw [decide_eq_true (by omega : ((i + 1 : Nat) : Int) < (K : Int))]; rfl) (cond_f rfl (down_c hD28 ⟨_, rfl, cond_f ?_ nxt⟩))
      rw [hdn, decide_eq_false (by omega : ¬ ((i + 1 : Nat) : Int) ≥ (K : Int))]
      rfl
    · have hdn : v'.down = true := by rcases hAR28 with ⟨hh, _⟩ | ⟨_, hB⟩; omega; exact hB.d
      rw [hsx, if_neg hkk]
      refine cond_f (by rw [decide_eq_false (by omega : ¬ ((i + 1 : Nat) : Int) < (K : Int))]; rfl) (cond_t rfl (cond_f rfl (down_c hD28 ⟨_, rfl, cond_f ?_ nxt⟩)))
      rw [hdn, decide_eq_true (by omega : ((i + 1 : Nat) : Int) ≥ (K : Int))]
      rfl
  have hie : i = M.length := by omega
  subst hie
  have hokD := hD.ok
  have hokC := hC.ok
  refine cond_d (fun hKgt => ?_) (fun hKle => ?_)
  · rcases hAR with ⟨_, hA⟩ | ⟨hh, _⟩
    rotate_left
    · omega
    refine image_c hD fun a6 c6 w31 hs31 k31 fr31 => ⟨_, _, _, rfl, ?_⟩
    refine image_c (hC.kp0 k31) fun a7 c7 w32 hs32 k32 fr32 => ⟨_, _, _, rfl, ?_⟩
    refine same_c (hs31.rd.kp0 k32) rfl (fun h0 => sl_some' hs31 h0) hs32.rd rfl (fun h0 => sl_some' hs32 h0) ⟨_, rfl, cond_t (by rw [hA.img]; simp) ?_⟩
    have k1332 := k31.trans0 k32
    refine cache_c (hD.kp0 k1332) (by omega) fun a8 c8 X w34 hX hXv => ⟨_, _, _, rfl, ?_⟩
    refine cache_c (hC.kp0 (k1332.trans0 hX.k)) (by omega) fun a9 c9 Y w35 hY hYv => ⟨_, _, _, rfl, ?_⟩
    have hXn := hX.n
    have hYn := hY.n
    rw [← hXn, ← hYn]
    refine cached_c (hX.s.rd.kp0 hY.k) hY.s.rd (fun x hx => ⟨(hX.x x hx).1.rd.kp0 hY.k, fun h0 => sl_some' (hX.x x hx).1 h0⟩) (fun x hx => ⟨(hY.x x hx).1.rd, fun h0 => sl_some' (hY.x x hx).1 h0⟩) (by rw [hXv, hYv, hA.q]) (by omega) fun w36 k36 => ⟨_, rfl, cond_t rfl ?_⟩
    have kall := ((k1332.trans0 hX.k).trans0 hY.k).trans0 k36
    have hb36 := kall.blk hb13' id
    have hO36 := hO.fr (Fro.kp0 kall) trivial
    refine ⟨_, _, _, _, _, ⟨c0 hb36 rfl, cN hb36 rfl, cN hb36 rfl, trivial⟩, ?_⟩
    refine arm_c (v := v) (keep := keep) (step := 0) (hD.kp0 kall) ⟨(hO36.rdT h2.rd).mono hU, h2.lt, lk, h2.nn⟩ (by decide) fun w37 ow37 hD37 f37 => ⟨_, rfl, ?_⟩
    have ea0 : v.arm 0 keep torn off = (0, { v with step := 0, keep := keep, torn := torn, off := off }) := by unfold Dv.arm; rw [hA.d, if_neg (by decide), if_neg (by decide)]
    rw [ea0] at hD37 ⊢
    refine num_c ⟨_, rfl, cond_t rfl ?_⟩
    have es : ({ v with step := 0, keep := keep, torn := torn, off := off } : Dv).sync.1 = 0 := by
      unfold Dv.sync
      rw [show ({ v with step := 0, keep := keep, torn := torn, off := off } : Dv).down = false from hA.d, if_neg (by decide), if_neg (show ¬ (0 : Int) = 1 by decide)]
    refine sync_c hD37 (by show v.q.length ≤ _; omega) lk fun w39 ow39 hD39 f39 => ⟨_, rfl, num_c ⟨_, rfl, ?_⟩⟩
    rw [es]
    exact h w39 ((hO36.fr f37 (by decide)).fr f39 (by decide)).kp
  · rcases hAR with ⟨hh, _⟩ | ⟨_, hB⟩
    · omega
    refine ⟨_, _, _, _, _, ⟨c0 hb13' rfl, cN hb13' rfl, cN hb13' rfl, trivial⟩, ?_⟩
    refine crash_c (v := u) (keep := keep) hC ⟨(hO.rdT h2.rd).mono hU6, h2.lt, lk, h2.nn⟩ (by omega) fun w46 ow46 hC46 f46 => ⟨_, rfl, ?_⟩
    have ec : u.crash keep torn off = (0, u.fall keep torn off) := by unfold Dv.crash; rw [hB.ud, if_neg (by decide)]
    rw [ec] at hC46 ⊢
    refine num_c ⟨_, rfl, cond_t rfl ?_⟩
    have hD46 := hD.fr f46 (by decide) (by decide) (by decide) (by decide)
    have hO46 := hO.fr f46 (by decide)
    refine image_c hD46 fun a6 c6 w31 hs31 k31 fr31 => ⟨_, _, _, rfl, ?_⟩
    refine image_c (hC46.kp0 k31) fun a7 c7 w32 hs32 k32 fr32 => ⟨_, _, _, rfl, ?_⟩
    refine same_c (hs31.rd.kp0 k32) rfl (fun h0 => sl_some' hs31 h0) hs32.rd rfl (fun h0 => sl_some' hs32 h0) ⟨_, rfl, cond_t ?_ ?_⟩
    · rw [hB.img]
      exact decide_eq_true rfl
    have k1332 := k31.trans0 k32
    refine cache_c (hD46.kp0 k1332) (by omega) fun a8 c8 X w34 hX hXv => ⟨_, _, _, rfl, cond_t (by rw [hB.q]; rfl) ?_⟩
    have kall := k1332.trans0 hX.k
    refine calls_c (hD46.kp0 kall) ⟨_, rfl, ?_⟩
    rw [hB.c]
    have := h w34 (hO46.kp.trans0 kall)
    simpa using this
theorem sectorsArmed_walk {W : World} {v0 v1 v2 v3 v4 : Value} (h0 : ArgW Try.prog W T_int v0) (h1 : ArgW Try.prog W T_s_quotalaw03_Put v1) (h2 : ArgW Try.prog W T_int v2) (h3 : ArgW Try.prog W T_int v3) (h4 : ArgW Try.prog W T_api_Loss v4) :
    GoC Try.prog F_law03_SectorsArmed #[v0, v1, v2, v3, v4] W fun e W' => e = .returned (.bool true) ∧ Kp no W W' := by
  obtain ⟨n, rfl, w0⟩ := h0.arg.int (k := .i64) (by kernel_rfl)
  obtain ⟨a1, l1, c1, L1, rfl, p1⟩ := puts_open h1
  obtain ⟨n2, rfl, w2⟩ := h2.arg.int (k := .i64) (by kernel_rfl)
  obtain ⟨n3, rfl, w3⟩ := h3.arg.int (k := .i64) (by kernel_rfl)
  obtain ⟨a3, l3, c3, keep, torn, off, rfl, p3⟩ := loss_open h4
  exact armed_c (i64_wf w0) (i64_wf w2) (i64_wf w3) p1 p3 fun w' k => ⟨rfl, k⟩
end Go.Proofs.Ytkhdmbgcbogndaa
