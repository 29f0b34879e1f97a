/- Two disks side by side: looked at, made; a loss that is lent, and spoilt. Conditions: none. -/
import Derived.Test.YtkhdmbgcbogndaaUf
import Derived.Test.YtkhdmbgcbogndaaUa
set_option linter.unusedVariables false
set_option linter.unusedSimpArgs false
namespace Go.Proofs.Ytkhdmbgcbogndaa
open Go Go.RowKit

set_option maxRecDepth 100000 in
theorem looks_c {w : World} {ow : Nat → Nat} {t u p r : Nat} {v : Dv} {R : Ending → World → Prop} (hD : DX w ow t p v) (hR : RX w ow u r v) (hq : v.q.length ≤ 1000000) (h : ∀ w', Kp no w w' → R (.returned (.bool true)) w') :
    GoC Try.prog F_law03_Both_looks #[.agg #[.pointer (some ⟨p, 0, none⟩), .pointer (some ⟨r, 0, none⟩)]] w R := by
  refine S_law03_Both_looks ?_
  unfold W_law03_Both_looks
  refine AlF.intro fun b1 w1 hb1e hb1 k1 s1 => ?_
  have kd1 : Kp no w1 w1.drew := Kp.drew w1 1
  have hD1 := (hD.kp0 k1).kp0 kd1
  have hR1 := (hR.kp0 k1).kp0 kd1
  have hbd := kd1.blk hb1 id
  have kk := k1.trans0 kd1
  have x0 : ∀ w', Blk w' b1 #[.pointer (some ⟨p, 0, none⟩), .pointer (some ⟨r, 0, none⟩)] T_quotalaw03_Both → w'.cell? ⟨b1, 0, none⟩ = some (.pointer (some ⟨p, 0, none⟩)) := fun w' hb => c0 hb rfl
  have x1 : ∀ w', Blk w' b1 #[.pointer (some ⟨p, 0, none⟩), .pointer (some ⟨r, 0, none⟩)] T_quotalaw03_Both → w'.cell? (Addr.add ⟨b1, 0, none⟩ 1) = some (.pointer (some ⟨r, 0, none⟩)) := fun w' hb => cN hb rfl
  refine ⟨fun w' => Blk w' b1 #[.pointer (some ⟨p, 0, none⟩), .pointer (some ⟨r, 0, none⟩)] T_quotalaw03_Both, hbd, _, x0, _, x1, size_c hD1 ⟨_, rfl, hbd, rsize_c hR1 ⟨_, rfl, hbd, cond_f (by simp) ?_⟩⟩⟩
  refine ⟨_, x0, _, x1, calls_c hD1 ⟨_, rfl, hbd, rcalls_c hR1 ⟨_, rfl, hbd, cond_f (by simp) ?_⟩⟩⟩
  refine ⟨_, x0, _, x1, down_c hD1 ⟨_, rfl, hbd, rdown_c hR1 ⟨_, rfl, hbd, cond_f (by cases v.down <;> rfl) ?_⟩⟩⟩
  have kd2 : Kp no w1.drew w1.drew.drew := Kp.drew _ 1
  have hD2 := hD1.kp0 kd2
  have hR2 := hR1.kp0 kd2
  have hb2 := kd2.blk hbd id
  refine ⟨fun w' => Blk w' b1 #[.pointer (some ⟨p, 0, none⟩), .pointer (some ⟨r, 0, none⟩)] T_quotalaw03_Both, hb2, _, x0, _, x1, image_c hD2 fun a3 c3 w3 hs3 k3 fr3 => ⟨_, _, _, rfl, k3.blk hb2 id, rimage_c (hR2.kp0 k3) fun a4 c4 w4 hs4 k4 fr4 => ⟨_, _, _, rfl, k4.blk (k3.blk hb2 id) id, ?_⟩⟩⟩
  have hb4 := k4.blk (k3.blk hb2 id) id
  refine same_c (hs3.rd.kp0 k4) rfl (fun h0 => sl_some' hs3 h0) hs4.rd rfl (fun h0 => sl_some' hs4 h0) ⟨_, rfl, hb4, cond_t (decide_eq_true rfl) ?_⟩
  have k24 := k3.trans0 k4
  refine ⟨_, x0, _, x1, cache_c (hD2.kp0 k24) hq fun a5 c5 X w5 hX hXv => ⟨_, _, _, rfl, hX.k.blk hb4 id, rcache_c ((hR2.kp0 k24).kp0 hX.k) hq fun a6 c6 Y w6 hY hYv => ⟨_, _, _, rfl, hY.k.blk (hX.k.blk hb4 id) id, ?_⟩⟩⟩
  have hb6 := hY.k.blk (hX.k.blk hb4 id) id
  have hXn := hX.n
  have hYn := hY.n
  rw [← hXn]
  have e : X.length = Y.length := by rw [hXn, hYn]
  have hc := cached_c (a1 := a5) (a2 := a6) (c1 := c5) (c2 := c6) (hX.s.rd.kp0 hY.k) hY.s.rd (fun x hx => ⟨(hX.x x hx).1.rd.kp0 hY.k, fun h0 => sl_some' (hX.x x hx).1 h0⟩) (fun x hx => ⟨(hY.x x hx).1.rd, fun h0 => sl_some' (hY.x x hx).1 h0⟩) (by rw [hXv, hYv]) (by omega) (R := fun e w' => match e with | .returned v => ∃ (q4 : Bool), v = (.bool q4) ∧ (Blk w' b1 #[.pointer (some ⟨p, 0, none⟩), .pointer (some ⟨r, 0, none⟩)] T_quotalaw03_Both ∧ R (.returned (.bool q4)) w') | .panicked ch => PanF R ch w' | .outgrown => False)
    fun w7 k7 => ⟨_, rfl, k7.blk hb6 id, h w7 (((((kk.trans0 kd2).trans0 k24).trans0 hX.k).trans0 hY.k).trans0 k7)⟩
  rw [← e] at hc
  exact hc

/-- Two new disks. -/
theorem made_c {w : World} {ow : Nat → Nat} {n : Nat} {R : Ending → World → Prop} (h1 : 1 ≤ n) (h2 : n ≤ 8192) (t u : Nat) (ht : 10 ≤ t) (hu : 10 ≤ u)
    (hK : ∀ p r w' ow', DX w' ow' t p (Dv.new n) → RX w' ow' u r (Dv.new n) → Kp no w w' → (∀ j, j < w.heap.size → ow' j = ow j) → R (.returned (.tuple #[.agg #[.pointer (some ⟨p, 0, none⟩), .pointer (some ⟨r, 0, none⟩)], .bool true])) w') :
    GoC Try.prog F_law03_made #[.int .i64 (n : Int)] w R := by
  refine S_law03_made ?_
  unfold W_law03_made
  refine AlF.intro fun b1 w1 hb1e hb1 k1 s1 => ?_
  have f1 : Fro (fun _ => True) w ow w1 (ext ow w.heap.size 1) := Fro.of_kp0 1 k1
  refine new_c (ow := ext ow w.heap.size 1) h1 h2 t fun p w2 ow2 hD2 k2 ho2 hp2 => ⟨_, _, rfl, ?_⟩
  refine rnew_c (ow := ow2) h1 h2 u fun r w3 ow3 hR3 k3 ho3 hr3 => ⟨_, _, rfl, cond_t rfl (num_c ⟨_, rfl, cond_t rfl ?_⟩)⟩
  have f3 : Fro (fun _ => True) w2 ow2 w3 ow3 := Fro.new k3 ho3
  have hD3 := hD2.fr f3 trivial trivial trivial trivial
  have hb3 := (k2.trans0 k3).blk hb1 id
  refine st2 hb3 fun w5 hb5 k5 s5 => ⟨_, _, ⟨c0 hb5 rfl, cN hb5 rfl, trivial⟩, ?_⟩
  have hbo : ow3 b1 = 1 := by rw [ho3 _ (by have := k2.size; omega), ho2 _ (by omega), ext_new (by omega)]
  have f5 : Fro (fun x => x ≠ 1) w3 ow3 w5 ow3 := Fro.of_kp' k5 fun j _ hj hne => hne (by rw [hj]; exact hbo)
  refine hK p r w5 ow3 (hD3.fr f5 (by omega) (by omega) (by omega) (by omega)) (hR3.fr f5 (by omega) (by omega) (by omega) (by omega)) (kp_blk ((k1.trans0 k2).trans0 k3) (by omega) k5) fun j hj => ?_
  rw [ho3 _ (by have := k2.size; omega), ho2 _ (by omega), ext_old hj]

/-- A loss is lent: with a mark behind its list. -/
theorem lent_c {w : World} {la : Option Addr} {lc : Nat} {keep : List Nat} {torn off : Int} {R : Ending → World → Prop} (hr : Rd w la (keep.map u64v)) (hnn : la = none → keep.length = 0) (hln : keep.length * 8 ≤ 140737488351232)
    (hK : ∀ a c w', Sl w' T_uint64 1 a (keep.length + 1) c ((keep ++ [23130]).map u64v) → Kp no w w' → Fresh w a → R (.returned (.agg #[.slice a keep.length c, .int .i64 torn, .int .i64 off])) w') :
    GoC Try.prog F_law03_lent #[.agg #[.slice la keep.length lc, .int .i64 torn, .int .i64 off]] w R := by
  refine S_law03_lent ?_
  unfold W_law03_lent
  refine AlF.intro fun b1 w1 hb1e hb1 k1 s1 => AlF.intro fun b2 w2 hb2e hb2 k2 s2 => ⟨_, _, _, (k2.blk hb1 id).cell 0, ?_⟩
  have k02 := k1.trans0 k2
  refine append_new er_u64 (hr.kp0 k02) (by simp) hnn (u64_one keep) (by omega) (by omega) fun a3 c3 w3 hs3 k3 fr3 _ => ⟨_, _, _, rfl, ?_⟩
  refine push_own er_u64 hs3 (v := .int .u64 23130) rfl (by omega) (by omega) fun a4 c4 w5 hs5 k5 hi5 => ?_
  have e1 : IntKind.wrap .i64 (((keep.length + 1 : Nat) : Int) - 1) = ((keep.length : Nat) : Int) := by rw [wrap_i64 (by omega) (by omega)]; omega
  rw [e1]
  have hc5 := hs5.2.1
  have sz3 := k3.size
  have k35 : Kp no w w5 := (k02.trans0 k3).trans k5 (fun _ _ h => h) fun j hj hh => by have := fr3 j hh; have := k02.size; omega
  have fr4 : Fresh w a4 := fun j hj => by
    rcases hi5 j hj with hh | hh
    · have := fr3 j hh; have := k02.size; omega
    · have := (k02.trans0 k3).size; omega
  have kd : Kp no w5 w5.drew := Kp.drew w5 1
  have n1 : ¬ Is a3 b1 := fun hh => by have := fr3 b1 hh; omega
  have n2 : ¬ Is a3 b2 := fun hh => by have := fr3 b2 hh; omega
  have g1 := kd.blk (k5.blk ((k2.trans0 k3).blk hb1 id) n1) id
  have g2 := kd.blk (k5.blk (k3.blk hb2 id) n2) id
  refine ⟨⟨by omega, by omega⟩, trivial, _, cN g1 rfl, _, cN g1 rfl, ?_⟩
  rw [Int.toNat_natCast, subA_zero]
  refine StF.at rfl g2 (by simp) fun w6 hb6 k6 s6 => StF.at (add1 b2 1) hb6 (by simp) fun w7 hb7 k7 s7 => StF.at (add1 b2 2) hb7 (by simp) fun w8 hb8 k8 s8 => ⟨_, _, _, _, _, ⟨c0 hb8 rfl, cN hb8 rfl, cN hb8 rfl, trivial⟩, ?_⟩
  have k68 := (k6.trans0 k7).trans0 k8
  have nb : ¬ Is a4 b2 := fun hh => by
    rcases hi5 b2 hh with h' | h'
    · exact n2 h'
    · omega
  refine hK a4 c4 w8 ?_ (kp_blk (k35.trans0 kd) (by omega) k68) fr4
  have e2 : (keep ++ [23130]).map u64v = keep.map u64v ++ [Value.int .u64 23130] := by simp [u64v]
  rw [e2]
  exact (hs5.kp0 kd).kp k68 fun j hj hh => nb (by rw [← hh]; exact hj)

set_option maxRecDepth 100000 in
/-- What was lent is as it was; it is written over. -/
theorem spoilt_c {w : World} {ow : Nat → Nat} {u : Nat} {a la : Option Addr} {c lc : Nat} {keep : List Nat} {n1 n2 torn off : Int} {R : Ending → World → Prop} (hs : SlT w ow T_uint64 1 a (keep.length + 1) c ((keep ++ [23130]).map u64v) u) (hr : RdT w ow (fun x => x ≠ u) la (keep.map u64v)) (hln : keep.length ≤ 1000000000000000)
    (hK : ∀ w' ow', Fro (fun x => x ≠ u) w ow w' ow' → R (.returned (.bool true)) w') :
    GoC Try.prog F_law03_spoilt #[.agg #[.slice a keep.length c, .int .i64 n1, .int .i64 n2], .agg #[.slice la keep.length lc, .int .i64 torn, .int .i64 off]] w R := by
  refine S_law03_spoilt ?_
  unfold W_law03_spoilt
  refine AlF.intro fun b1 w1 hb1e hb1 k1 s1 => AlF.intro fun b2 w2 hb2e hb2 k2 s2 => ⟨_, _, _, (k2.blk hb1 id).cell 0, _, _, _, hb2.cell 0, ?_⟩
  have k02 := k1.trans0 k2
  have f2 : Fro (fun _ => True) w ow w2 (ext ow w.heap.size (u + 1)) := Fro.of_kp0 (u + 1) k02
  have hs2 := hs.fr f2 trivial
  have hr2 := hr.fr f2 fun _ _ => trivial
  have ht2 : ext ow w.heap.size (u + 1) b2 = u + 1 := ext_new (by omega)
  generalize ext ow w.heap.size (u + 1) = ow2 at *
  have e1 : IntKind.wrap .i64 (((keep.length : Nat) : Int) + 1) = ((keep.length + 1 : Nat) : Int) := by rw [wrap_i64 (by omega) (by omega)]; omega
  rw [e1, Int.toNat_natCast, subA_zero]
  have hlc := hs2.sl.2.1
  refine ⟨⟨by omega, by omega⟩, trivial, _, _, _, hb2.cell 0, ?_⟩
  obtain ⟨b, cur, ha, _⟩ := hs2.sl.addr (by omega)
  have hat : ∀ k (hk : k < keep.length + 1), w2.cell? ((⟨b, 0, none⟩ : Addr).add k) = some (u64v ((keep ++ [23130])[k]'(by simpa using hk))) := fun k hk => by
    obtain ⟨b', o', ha', hc'⟩ := hs2.sl.rd k (u64v ((keep ++ [23130])[k]'(by simpa using hk))) (by rw [List.getElem?_map, List.getElem?_eq_getElem (by simpa using hk)]; rfl)
    rw [ha] at ha'
    cases ha'
    rw [add_at]
    exact hc'
  have hm := hat keep.length (by omega)
  rw [List.getElem_append_right (Nat.le_refl _)] at hm
  refine ⟨by omega, by omega, _, ha, _, by rw [Int.toNat_natCast]; exact hm, ?_⟩
  have e3 : ((((([23130] : List Nat)[keep.length - keep.length]'(by simp)) : Nat) : Int) == 23130) = true := by simp
  rw [e3]
  refine loopN (fun s w' => ∃ k : Nat, s = (true, (k : Int), ()) ∧ k ≤ keep.length ∧ Kp no w2 w') (fun s _ => keep.length - s.2.1.toNat) ⟨0, rfl, by omega, Kp.refl _ _⟩ ?_
  rintro s w3 ⟨k, rfl, hk, k3⟩ _
  dsimp only
  refine ⟨_, _, _, (k3.blk hb2 id).cell 0, cond_d (fun hlt => cond_t rfl ?_) (fun hge => ?_)⟩
  · have hkl : k < keep.length := by omega
    have hkw : IntKind.wrap .i64 ((k : Int) + 1) = ((k + 1 : Nat) : Int) := by rw [wrap_i64 (by omega) (by omega)]; omega
    rw [hkw]
    have hg := hat k (by omega)
    rw [List.getElem_append_left hkl] at hg
    obtain ⟨b', o', hla, hc'⟩ := hr2.rd k (u64v keep[k]) (by simp [hkl])
    refine ⟨by omega, by omega, _, ha, _, by rw [Int.toNat_natCast]; exact k3.cell hg id, _, _, _, (k3.blk hb2 id).cell 0, by omega, hlt, _, hla, _, by rw [Int.toNat_natCast, add_at]; exact k3.cell hc' id, fun q => ⟨⟨k + 1, by simp, by omega, k3.trans0 (Kp.drew w3 q)⟩, by simp only [Int.toNat_natCast]; omega⟩⟩
  · have f3 : Fro (fun _ => True) w2 ow2 w3 ow2 := Fro.kp0 k3
    have hs3 := hs2.fr f3 trivial
    refine loopN (fun s w' => ∃ (k : Nat) (xs : List Value), s.1 = (k : Int) ∧ k ≤ keep.length + 1 ∧ SlT w' ow2 T_uint64 1 a (keep.length + 1) c xs u ∧ Fro (fun x => x ≠ u) w3 ow2 w' ow2) (fun s _ => keep.length + 1 - s.1.toNat) ⟨0, _, rfl, by omega, hs3, ⟨Kp.refl _ _, fun _ _ _ => rfl⟩⟩ ?_
    rintro ⟨k0, u'⟩ w4 ⟨j, xs, hk0, hj, hs4, f4⟩ _
    dsimp only at hk0 ⊢
    subst hk0
    refine cond_d (fun hlt => ?_) (fun hge => hK w4 ow2 (((f2.mono fun _ _ => trivial).trans (f3.mono fun _ _ => trivial)).trans f4))
    have hjw : IntKind.wrap .i64 ((j : Int) + 1) = ((j + 1 : Nat) : Int) := by rw [wrap_i64 (by omega) (by omega)]; omega
    rw [hjw]
    refine ⟨by omega, hlt, _, ha, ?_⟩
    refine slt_put hs4 ha (i := j) (by omega) (by rw [Int.toNat_natCast, add_at]) fun w5 hs5 f5 => ⟨⟨j + 1, _, rfl, by omega, hs5, f4.trans f5⟩, by simp only [Int.toNat_natCast]; omega⟩
end Go.Proofs.Ytkhdmbgcbogndaa
