/- The statement SectorsImage. Conditions: none. -/
import Derived.Test.YtkhdmbgcbogndaaUa
set_option linter.unusedVariables false
set_option linter.unusedSimpArgs false
namespace Go.Proofs.Ytkhdmbgcbogndaa
open Go Go.RowKit

/-- A disk that is down holds nothing that waits, and no loss. -/
def Iv (v : Dv) : Prop := v.down = true → v.q = [] ∧ v.keep = [] ∧ v.torn = 0 ∧ v.off = 0
theorem Iv.fall (v : Dv) (keep : List Nat) (torn off : Int) : Iv (v.fall keep torn off) := fun _ => ⟨rfl, rfl, rfl, rfl⟩
theorem Iv.of_up {v : Dv} (h : v.down = false) : Iv v := fun h' => by rw [h] at h'; cases h'
theorem Iv.write {v : Dv} (h : Iv v) (i : Int) (bs : List UInt8) : Iv (v.write i bs).2 := by
  unfold Dv.write
  split
  · exact h
  · rename_i hd
    split
    · exact h
    · split
      · exact h
      · split
        · exact Iv.fall _ _ _ _
        · exact Iv.of_up (show v.down = false by simpa using hd)
theorem Iv.crash {v : Dv} (h : Iv v) (keep : List Nat) (torn off : Int) : Iv (v.crash keep torn off).2 ∧ (v.crash keep torn off).2.down = true := by
  unfold Dv.crash
  split
  · rename_i hd
    exact ⟨h, hd⟩
  · exact ⟨Iv.fall _ _ _ _, rfl⟩
theorem Iv.call {v : Dv} (h : Iv v) (o : OpV) : Iv (v.call o).2 := by
  unfold Dv.call
  split
  · exact h
  split
  · exact h.write _ _
  split
  · unfold Dv.sync
    split
    · exact h
    · rename_i hd
      split
      · exact Iv.fall _ _ _ _
      · exact Iv.of_up (show v.down = false by simpa using hd)
  split
  · unfold Dv.arm
    split
    · exact h
    · rename_i hd
      split
      · exact h
      · exact Iv.of_up (show v.down = false by simpa using hd)
  split
  · exact (h.crash _ _ _).1
  split
  · exact Iv.of_up rfl
  · exact h

/-- The same disk, but for the count of its calls. -/
def Dv.wc (v : Dv) (n : Int) : Dv := { v with calls := n }
theorem wc_bump (v : Dv) (n : Int) : ∃ m, (v.wc n).bump = v.bump.wc m := ⟨IntKind.wrap .i64 (n + 1), rfl⟩
theorem wc_write (v : Dv) (n : Int) (i : Int) (bs : List UInt8) : ∃ m, (v.wc n).write i bs = ((v.write i bs).1, (v.write i bs).2.wc m) := by
  have ht : (v.wc n).there i ↔ v.there i := Iff.rfl
  obtain ⟨m, hm⟩ := wc_bump v n
  unfold Dv.write
  by_cases h1 : v.down = true
  · exact ⟨n, by rw [if_pos h1, if_pos (show (v.wc n).down = true from h1)]⟩
  rw [if_neg h1, if_neg (show ¬ (v.wc n).down = true from h1)]
  by_cases h2 : ¬ v.there i
  · exact ⟨n, by rw [if_pos h2, if_pos (show ¬ (v.wc n).there i from h2)]⟩
  rw [if_neg h2, if_neg (show ¬ ¬ (v.wc n).there i from h2)]
  by_cases h3 : bs.length ≠ 512
  · exact ⟨n, by rw [if_pos h3, if_pos h3]⟩
  rw [if_neg h3, if_neg h3]
  by_cases h4 : v.step = 1
  · rw [if_pos h4, if_pos (show (v.wc n).step = 1 from h4), hm]
    exact ⟨m, rfl⟩
  · rw [if_neg h4, if_neg (show ¬ (v.wc n).step = 1 from h4), hm]
    exact ⟨m, rfl⟩
theorem wc_sync (v : Dv) (n : Int) : ∃ m, (v.wc n).sync = (v.sync.1, v.sync.2.wc m) := by
  obtain ⟨m, hm⟩ := wc_bump v n
  unfold Dv.sync
  by_cases h1 : v.down = true
  · exact ⟨n, by rw [if_pos h1, if_pos (show (v.wc n).down = true from h1)]⟩
  rw [if_neg h1, if_neg (show ¬ (v.wc n).down = true from h1)]
  by_cases h4 : v.step = 1
  · rw [if_pos h4, if_pos (show (v.wc n).step = 1 from h4), hm]
    exact ⟨m, rfl⟩
  · rw [if_neg h4, if_neg (show ¬ (v.wc n).step = 1 from h4), hm]
    exact ⟨m, rfl⟩
theorem wc_arm (v : Dv) (n : Int) (step : Int) (keep : List Nat) (torn off : Int) : (v.wc n).arm step keep torn off = ((v.arm step keep torn off).1, (v.arm step keep torn off).2.wc n) := by
  unfold Dv.arm
  by_cases h1 : v.down = true
  · rw [if_pos h1, if_pos (show (v.wc n).down = true from h1)]
  rw [if_neg h1, if_neg (show ¬ (v.wc n).down = true from h1)]
  by_cases h2 : step < 0
  · rw [if_pos h2, if_pos h2]
  · rw [if_neg h2, if_neg h2]
    rfl
theorem wc_crash (v : Dv) (n : Int) (keep : List Nat) (torn off : Int) : (v.wc n).crash keep torn off = ((v.crash keep torn off).1, (v.crash keep torn off).2.wc n) := by
  unfold Dv.crash
  by_cases h1 : v.down = true
  · rw [if_pos h1, if_pos (show (v.wc n).down = true from h1)]
  · rw [if_neg h1, if_neg (show ¬ (v.wc n).down = true from h1)]
    rfl
theorem wc_read (v : Dv) (n : Int) (i : Int) : (v.wc n).read i = v.read i := rfl
theorem wc_call (v : Dv) (n : Int) (o : OpV) : ∃ m, (v.wc n).call o = ((v.call o).1, (v.call o).2.wc m) := by
  have hn : (v.wc n).n = v.n := rfl
  unfold Dv.call
  rw [hn]
  by_cases h1 : o.kind = 1
  · rw [if_pos h1, if_pos h1, wc_read]
    exact ⟨n, rfl⟩
  rw [if_neg h1, if_neg h1]
  by_cases h2 : o.kind = 2
  · obtain ⟨m, hm⟩ := wc_write v n (o.i % ((v.n : Int) + 1)) (fillN o.f (lenO o.len))
    rw [if_pos h2, if_pos h2, hm]
    exact ⟨m, rfl⟩
  rw [if_neg h2, if_neg h2]
  by_cases h3 : o.kind = 3
  · obtain ⟨m, hm⟩ := wc_sync v n
    rw [if_pos h3, if_pos h3, hm]
    exact ⟨m, rfl⟩
  rw [if_neg h3, if_neg h3]
  by_cases h4 : o.kind = 4
  · rw [if_pos h4, if_pos h4, wc_arm]
    exact ⟨n, rfl⟩
  rw [if_neg h4, if_neg h4]
  by_cases h5 : o.kind = 5
  · rw [if_pos h5, if_pos h5, wc_crash]
    exact ⟨n, rfl⟩
  rw [if_neg h5, if_neg h5]
  by_cases h6 : o.kind = 6
  · rw [if_pos h6, if_pos h6]
    exact ⟨n, rfl⟩
  · rw [if_neg h6, if_neg h6]
    exact ⟨n, rfl⟩
/-- Behind a crash and Up: as loaded. -/
theorem up_load {v : Dv} (h : Iv v) (hd : v.down = true) : Dv.load v.up.img = v.up.wc 0 := by
  obtain ⟨h1, h2, h3, h4⟩ := h hd
  obtain ⟨img, q, step, keep, torn, off, down, calls⟩ := v
  dsimp only at h1 h2 h3 h4
  subst h1 h2 h3 h4
  rfl

set_option maxRecDepth 100000 in
theorem image_law_c {w : World} {size : Int} {a1 a2 a3 : Option Addr} {l1 c1 l2 c2 l3 c3 : Nat} {L1 L3 : List OpV} {keep : List Nat} {torn off : Int} {R : Ending → World → Prop} (hsz : -9223372036854775808 ≤ size ∧ size ≤ 9223372036854775807)
    (h1 : OpsOk w a1 l1 c1 L1) (h2 : LossOk w a2 l2 keep torn off) (h3 : OpsOk w a3 l3 c3 L3) (h : ∀ w', Kp no w w' → R (.returned (.bool true)) w') :
    GoC Try.prog F_law03_SectorsImage #[.int .i64 size, .slice a1 l1 c1, .agg #[.slice a2 l2 c2, .int .i64 torn, .int .i64 off], .slice a3 l3 c3] w R := by
  refine S_law03_SectorsImage ?_
  unfold W_law03_SectorsImage
  have h2n := h2.n
  have h1n := h1.n
  have h3n := h3.n
  subst h2n h1n h3n
  refine AlF.intro fun b1 w1 hb1e hb1 k1 s1 => ?_
  have hO1 : Old w w1 (ext (fun _ => 0) w.heap.size 1) := ⟨k1, fun k hk => ext_old hk⟩
  have ht1 : ext (fun _ => 0) w.heap.size 1 b1 = 1 := ext_new (by omega)
  generalize ext (fun _ => 0) w.heap.size 1 = ow1 at *
  have hb9 := brought9 (x := size)
  refine brought_c (n := 9) (by decide) (by decide) hsz.1 hsz.2 ⟨_, rfl, ?_⟩
  obtain ⟨N, hN⟩ : ∃ N : Nat, (N : Int) = 1 + size % 9 := ⟨(1 + size % 9).toNat, by omega⟩
  have hw9 : IntKind.wrap .i64 (1 + size % 9) = (N : Int) := by rw [wrap_i64 (by omega) (by omega)]; exact hN.symm
  rw [hw9]
  refine new_c (n := N) (ow := ow1) (by omega) (by omega) 50 fun b w3 ow3 hD3 k3 ho3 hb3 => ⟨_, _, rfl, cond_f rfl (num_c ⟨_, rfl, cond_f rfl ?_⟩)⟩
  have f3 : Fro (fun _ => True) w1 ow1 w3 ow3 := Fro.new k3 ho3
  have hO3 := hO1.fr f3 trivial
  obtain ⟨hb13, ht13⟩ := blk_fr hb1 ht1 f3 trivial
  refine awake_c fun w5 k5 => ⟨_, rfl, cond_f rfl ?_⟩
  have hO5 := hO3.fr (Fro.kp0 k5) trivial
  have hD5 := hD3.kp0 k5
  have hb15 := k5.blk hb13 id
  have hU : ∀ u, u = 0 → Td 50 u := fun u hu => by subst hu; decide
  have hU6 : ∀ u, u = 0 → Td 60 u := fun u hu => by subst hu; decide
  have z0 : Kl (Dv.new N) := by simp [Kl, Dv.new]
  refine ⟨fun _ w' => ∃ (ow' : Nat → Nat) (v : Dv), DX w' ow' 50 b v ∧ Old w w' ow' ∧ Iv v ∧ Kl v ∧ v.q.length ≤ 60 ∧ Blk w' b1 #[.slice a2 keep.length c2, .int .i64 torn, .int .i64 off] T_api_Loss ∧ ow' b1 = 1, ?_, ?_⟩
  · refine loopN (fun s w' => ∃ (k : Nat) (ow' : Nat → Nat) (v : Dv), s.1 = (k : Int) ∧ k ≤ 60 ∧ DX w' ow' 50 b v ∧ Old w w' ow' ∧ Iv v ∧ Kl v ∧ v.q.length ≤ k ∧ Blk w' b1 #[.slice a2 keep.length c2, .int .i64 torn, .int .i64 off] T_api_Loss ∧ ow' b1 = 1) (fun s _ => L1.length - s.1.toNat)
      ⟨0, ow3, _, rfl, by omega, hD5, hO5, Iv.of_up rfl, z0, by simp [Dv.new], hb15, ht13⟩ ?_
    rintro ⟨k0, u⟩ w6 ⟨k, ow6, v, hk0, hk60, hD, hO, hI, hKl, hq, hb, ht⟩ _
    dsimp only at hk0 ⊢
    subst hk0
    refine cond_d (fun hlt => cond_d (fun hlt2 => ?_) (fun _ => ⟨ow6, v, hD, hO, hI, hKl, by omega, hb, ht⟩)) (fun _ => ⟨ow6, v, hD, hO, hI, hKl, by omega, hb, ht⟩)
    have hkl : k < L1.length := by omega
    have hkw : IntKind.wrap .i64 ((k : Int) + 1) = ((k + 1 : Nat) : Int) := by rw [wrap_i64 (by omega) (by omega)]; omega
    rw [hkw]
    have ho := h1.ok _ (List.getElem_mem hkl)
    refine opI (h1.rd.kp0 hO.kp) hkl rfl rfl ?_
    refine step_c (o := L1[k]) hD ho.i (hO.rdT ho.l.rd) hU ho.l.lt (by have := ho.l.ln; omega) ho.l.nn (by omega) hKl fun a' l' c' w7 ow7 hD7 f7 hs7 => ⟨_, _, _, _, rfl, ?_⟩
    obtain ⟨hb7, ht7⟩ := blk_fr hb ht f7 (by decide)
    exact ⟨⟨k + 1, ow7, _, rfl, by omega, hD7, hO.fr f7 (by decide), hI.call _, hKl.call (by have := ho.l.ln; omega), by have := Dv.call_q v L1[k]; omega, hb7, ht7⟩, by simp only [Int.toNat_natCast]; omega⟩
  rintro u8 w8 ⟨ow8, v, hD8, hO8, hI, hKl, hq, hb8, ht8⟩ _
  refine down_c hD8 ⟨_, rfl, _, _, _, _, _, ⟨c0 hb8 rfl, cN hb8 rfl, cN hb8 rfl, trivial⟩, ?_⟩
  have hls : Ls w8 ow8 50 a2 keep := ⟨(hO8.rdT h2.rd).mono hU, h2.lt, by have := h2.ln; omega, h2.nn⟩
  refine crash_c hD8 hls (by omega) fun w10 ow10 hD10 f10 => ⟨_, rfl, num_c ⟨_, rfl, cond_f ?_ ?_⟩⟩
  · unfold Dv.crash
    cases hd : v.down <;> rfl
  obtain ⟨hI1, hd1⟩ := hI.crash keep torn off
  have hul := up_load hI1 hd1
  generalize (v.crash keep torn off).2 = v1 at *
  have hO10 := hO8.fr f10 (by decide)
  refine up_c hD10 fun w12 ow12 hD12 f12 => ⟨_, rfl, num_c ⟨_, rfl, cond_f rfl ?_⟩⟩
  have hO12 := hO10.fr f12 (by decide)
  have hq2 : v1.up.q = [] := (hI1 hd1).1
  have hk2 : Kl v1.up := by have : v1.up.keep = [] := (hI1 hd1).2.1; simp [Kl, this]
  generalize v1.up = v2 at *
  refine image_c hD12 fun a7 c7 w14 hs14 k14 fr14 => ⟨_, _, _, rfl, ?_⟩
  have hok2 := hD12.ok
  refine load_c (ow := ow12) hs14.rd hok2.len hok2.n1 hok2.n2 60 fun bc w15 ow15 hC15 k15 ho15 hbc => ⟨_, _, rfl, cond_f rfl (num_c ⟨_, rfl, cond_f rfl ?_⟩)⟩
  have f1214 : Fro (fun _ => True) w12 ow12 w14 ow12 := Fro.kp0 k14
  have f15 : Fro (fun _ => True) w14 ow12 w15 ow15 := Fro.new k15 ho15
  have hD15 := (hD12.kp0 k14).fr f15 trivial trivial trivial trivial
  have hO15 := (hO12.fr f1214 trivial).fr f15 trivial
  rw [hul] at hC15
  refine loopN (fun s w' => ∃ (k : Nat) (ow' : Nat → Nat) (v : Dv) (m : Int), s.1 = (k : Int) ∧ k ≤ 60 ∧ DX w' ow' 50 b v ∧ DX w' ow' 60 bc (v.wc m) ∧ Old w w' ow' ∧ Kl v ∧ v.q.length ≤ k) (fun s _ => L3.length - s.1.toNat)
    ⟨0, ow15, v2, 0, rfl, by omega, hD15, hC15, hO15, hk2, by rw [hq2]; simp⟩ ?_
  rintro ⟨k0, u⟩ w17 ⟨k, ow17, v, m, hk0, hk60, hD, hC, hO, hKl, hq⟩ _
  dsimp only at hk0 ⊢
  subst hk0
  refine cond_d (fun hlt => cond_d (fun hlt2 => ?_) (fun _ => h w17 hO.kp)) (fun _ => h w17 hO.kp)
  have hkl : k < L3.length := by omega
  have hkw : IntKind.wrap .i64 ((k : Int) + 1) = ((k + 1 : Nat) : Int) := by rw [wrap_i64 (by omega) (by omega)]; omega
  rw [hkw]
  have ho := h3.ok _ (List.getElem_mem hkl)
  have hln : (L3[k]).keep.length * 8 ≤ 140737488355328 := by have := ho.l.ln; omega
  have hcq := Dv.call_q v L3[k]
  have hkc := hKl.call (o := L3[k]) hln
  obtain ⟨m', hm'⟩ := wc_call v m L3[k]
  refine opI (h3.rd.kp0 hO.kp) hkl rfl rfl ?_
  refine step_c (o := L3[k]) hD ho.i (hO.rdT ho.l.rd) hU ho.l.lt hln ho.l.nn (by omega) hKl fun a9 l9 c9 w18 ow18 hD18 f18 hs18 => ⟨_, _, _, _, rfl, ?_⟩
  have hO18 := hO.fr f18 (by decide)
  have hC18 := hC.fr f18 (by decide) (by decide) (by decide) (by decide)
  refine opI (h3.rd.kp0 hO18.kp) hkl rfl rfl ?_
  refine step_c (v := v.wc m) (o := L3[k]) hC18 ho.i (hO18.rdT ho.l.rd) hU6 ho.l.lt hln ho.l.nn (by show v.q.length ≤ _; omega) hKl fun a11 l11 c11 w19 ow19 hC19 f19 hs19 => ⟨_, _, _, _, rfl, ?_⟩
  rw [hm'] at hC19 hs19 ⊢
  have hD19 := hD18.fr f19 (by decide) (by decide) (by decide) (by decide)
  have hO19 := hO18.fr f19 (by decide)
  generalize (v.call L3[k]).2 = V at *
  refine cond_f (by simp) ?_
  have hrd18 := (hs18.fr f19 (by decide)).sl.rd
  have l9e := hs18.sl.len
  have l11e := hs19.sl.len
  rw [bvs_len] at l9e l11e
  refine same_c hrd18 l9e (fun h0 => sl_some' hs18.sl h0) hs19.sl.rd l11e (fun h0 => sl_some' hs19.sl h0) ⟨_, rfl, cond_f (by simp) ?_⟩
  refine down_c hD19 ⟨_, rfl, down_c hC19 ⟨_, rfl, cond_f (by show (!(V.down == V.down)) = false; cases V.down <;> rfl) ?_⟩⟩
  refine image_c hD19 fun a12 c12 w23 hs23 k23 fr23 => ⟨_, _, _, rfl, ?_⟩
  refine image_c (hC19.kp0 k23) fun a13 c13 w24 hs24 k24 fr24 => ⟨_, _, _, rfl, ?_⟩
  have hokV := hD19.ok
  have hl0 := hokV.len
  have hn1 := hokV.n1
  refine same_c (hs23.rd.kp0 k24) rfl (fun h0 => sl_some' hs23 h0) hs24.rd rfl (fun h0 => sl_some' hs24 h0) ⟨_, rfl, cond_f (by show (!decide (V.img = V.img)) = false; simp) ?_⟩
  have k1924 := k23.trans0 k24
  refine cache_c (hD19.kp0 k1924) (by omega) fun a14 c14 X w26 hX hXv => ⟨_, _, _, rfl, ?_⟩
  have hXn := hX.n
  refine cache_c (hC19.kp0 (k1924.trans0 hX.k)) (by show V.q.length ≤ _; omega) fun a15 c15 Y w27 hY hYv => ⟨_, _, _, rfl, ?_⟩
  have hYn := hY.n
  rw [← hXn, ← hYn]
  refine cached_c (hX.s.rd.kp0 hY.k) hY.s.rd (fun x hx => ⟨(hX.x x hx).1.rd.kp0 hY.k, fun h0 => sl_some' (hX.x x hx).1 h0⟩) (fun x hx => ⟨(hY.x x hx).1.rd, fun h0 => sl_some' (hY.x x hx).1 h0⟩) (by rw [hXv, hYv]; rfl) (by omega) fun w28 k28 => ⟨_, rfl, cond_f rfl ?_⟩
  have kall := ((k1924.trans0 hX.k).trans0 hY.k).trans0 k28
  exact ⟨⟨k + 1, ow19, V, m', rfl, by omega, hD19.kp0 kall, hC19.kp0 kall, hO19.fr (Fro.kp0 kall) trivial, hkc, by omega⟩, by simp only [Int.toNat_natCast]; omega⟩
theorem sectorsImage_walk {W : World} {v0 v1 v2 v3 : Value} (h0 : ArgW Try.prog W T_int v0) (h1 : ArgW Try.prog W T_s_quotalaw03_Op v1) (h2 : ArgW Try.prog W T_api_Loss v2) (h3 : ArgW Try.prog W T_s_quotalaw03_Op v3) :
    GoC Try.prog F_law03_SectorsImage #[v0, v1, v2, v3] W fun e W' => e = .returned (.bool true) ∧ Kp no W W' := by
  obtain ⟨n, rfl, w0⟩ := h0.arg.int (k := .i64) (by kernel_rfl)
  obtain ⟨a1, l1, c1, L1, rfl, p1⟩ := ops_open h1
  obtain ⟨a2, l2, c2, keep, torn, off, rfl, p2⟩ := loss_open h2
  obtain ⟨a3, l3, c3, L3, rfl, p3⟩ := ops_open h3
  exact image_law_c (i64_wf w0) p1 p2 p3 fun w' k => ⟨rfl, k⟩
end Go.Proofs.Ytkhdmbgcbogndaa
