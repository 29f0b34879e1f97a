/- The disk's crash and sync. Conditions: none. -/
import Derived.Test.YtkfdkcclojepnaaTc
set_option linter.unusedVariables false
set_option linter.unusedSimpArgs false
namespace Go.Proofs.Ytkfdkcclojepnaa
open Go Go.RowKit

theorem c0 {w : World} {b : Nat} {cs : Array Value} {T : TypeId} (h : Blk w b cs T) {v : Value} (hv : cs[0]? = some v) : w.cell? ⟨b, 0, none⟩ = some v := by rw [h.cell]; exact hv
theorem cN {w : World} {b i : Nat} {cs : Array Value} {T : TypeId} (h : Blk w b cs T) {v : Value} (hv : cs[i]? = some v) : w.cell? (Addr.add ⟨b, 0, none⟩ i) = some v := by rw [add_at, h.cell, Nat.zero_add]; exact hv
theorem cNM {w : World} {b i j : Nat} {cs : Array Value} {T : TypeId} (h : Blk w b cs T) {v : Value} (hv : cs[i + j]? = some v) : w.cell? (Addr.add (Addr.add ⟨b, 0, none⟩ i) j) = some v := by rw [add2_at, h.cell, Nat.zero_add]; exact hv
/-- A store into a disk's block. -/
theorem stb {w : World} {ow : Nat → Nat} {b i t : Nat} {ad : Addr} {cs : Array Value} {X : TypeId} {v : Value} {K : World → Prop} (had : ad = ⟨b, i, none⟩) (hb : Blk w b cs X) (ht : ow b = t) (hi : i < cs.size)
    (h : ∀ w', Blk w' b (cs.setIfInBounds i v) X → Fro (fun u => u ≠ t) w ow w' ow → w'.heap.size = w.heap.size → K w') : StF w ad v K :=
  StF.at had hb hi fun w' hb' k' s' => h w' hb' (Fro.of_kp' k' fun b _ hbb hne => hne (by rw [hbb]; exact ht)) s'
theorem add1 (b n : Nat) : Addr.add ⟨b, 0, none⟩ n = ⟨b, n, none⟩ := by rw [add_at, Nat.zero_add]
theorem add2 (b n m : Nat) : Addr.add (Addr.add ⟨b, 0, none⟩ n) m = ⟨b, n + m, none⟩ := by rw [add2_at, Nat.zero_add]
/-- Two cells of a new block. -/
theorem st2 {w : World} {b : Nat} {u0 u1 v0 v1 : Value} {T : TypeId} (hb : Blk w b #[u0, u1] T) {K : World → Prop} (h : ∀ w', Blk w' b #[v0, v1] T → Kp (fun k => k = b) w w' → w'.heap.size = w.heap.size → K w') :
    StF w ⟨b, 0, none⟩ v0 fun w1 => StF w1 (Addr.add ⟨b, 0, none⟩ 1) v1 K :=
  StF.at rfl hb (by simp) fun w1 hb1 k1 s1 => StF.at (add1 b 1) hb1 (by simp) fun w2 hb2 k2 s2 => h w2 hb2 (k1.trans0 k2) (by omega)
/-- An element of a list of pending writes. -/
theorem pdI {w : World} {a : Option Addr} {Q : List PD} (h : Rd w a (fP Q)) {i : Nat} (hi : i < Q.length) {l : Nat} (hl : Q.length = l) {n : Int} (hn : n = (i : Int)) {K : Int → Option Addr → Nat → Nat → Prop} (hk : K (Q[i]).sec (Q[i]).a (Q[i]).bs.length (Q[i]).c) :
    IdxF a n l fun d => ∃ (n3 : Int) (a3 : Option Addr) (l3 c3 : Nat), (w.cell? (d.add (Int.toNat n * 2)) = some (.int .i64 n3) ∧ w.cell? (Addr.add (d.add (Int.toNat n * 2)) 1) = some (.slice a3 l3 c3) ∧ True) ∧ K n3 a3 l3 c3 := by
  subst hn
  have hne : fP Q ≠ [] := fun h0 => by have := fP_len Q; rw [h0] at this; simp at this; omega
  obtain ⟨b, o, ha, _, hc⟩ := h.addr hne
  have h0 : (fP Q)[i * 2 + 0]? = some (.int .i64 (Q[i]).sec) := by unfold fP; rw [flatV_get PD.cs_len Q i hi 0 (by omega)]; rfl
  have h1 : (fP Q)[i * 2 + 1]? = some (.slice (Q[i]).a (Q[i]).bs.length (Q[i]).c) := by unfold fP; rw [flatV_get PD.cs_len Q i hi 1 (by omega)]; rfl
  refine ⟨by omega, by omega, _, ha, _, _, _, _, ⟨?_, ?_, trivial⟩, hk⟩
  · rw [Int.toNat_natCast, add_at]; exact hc _ _ h0
  · rw [Int.toNat_natCast, add_at, add_at, Nat.add_assoc]; exact hc _ _ h1

section
variable {w w' : World} {ow ow' : Nat → Nat} {t b kc : Nat} {H : Dh} {Q : List PD} {ka : Option Addr} {v : Dv}
theorem DL.bump (h : DL w ow t H Q v) : DL w ow t H Q v.bump := ⟨h.im, h.pl, h.pb, h.qv, h.ok.bump⟩
theorem crashes_c {R : Ending → World → Prop} (h : DP w ow t b H Q ka kc v) (hK : ∀ w', DP w' ow t b H Q ka kc v.bump → Fro (fun u => u ≠ t) w ow w' ow → R (.returned (.bool (decide (v.step = 1)))) w') : GoC Try.prog F_sectors_Device_crashes #[.pointer (some ⟨b, 0, none⟩)] w R := by
  refine S_sectors_Device_crashes ?_
  unfold W_sectors_Device_crashes
  have hst := h.l.ok.step
  refine ⟨v.calls, cN h.hb rfl, NilF.intro rfl (stb (add1 b 7) h.hb h.bt (by simp [Dh.cs]) fun w1 hb1 f1 s1 => ?_)⟩
  have l1 := h.l.fr f1 (by omega) (by omega) (by omega)
  have kp1 := h.kp.fr f1 (by omega)
  refine ⟨v.step, cN hb1 rfl, cond_eq (fun h0 => ?_) (fun hne => ⟨v.step, cN hb1 rfl, NilF.intro rfl (stb (add1 b 2) hb1 h.bt (by simp [Dh.cs]) fun w2 hb2 f2 s2 => ⟨_, cN hb2 rfl, ?_⟩)⟩)⟩
  · have e : decide (v.step = 1) = false := decide_eq_false (by omega)
    have e2 : v.bump = { v with calls := IntKind.wrap .i64 (v.calls + 1), step := v.step } := by unfold Dv.bump; rw [if_pos h0, h0]
    have := hK w1 ⟨l1.bump, by rw [e2]; exact hb1, h.bt, kp1⟩ f1
    rw [e] at this
    exact this
  · have ew : IntKind.wrap .i64 (v.step - 1) = v.step - 1 := wrap_i64 (by omega) (by omega)
    rw [ew] at hb2 ⊢
    have e : (v.step - 1 == 0) = decide (v.step = 1) := by rw [Bool.eq_iff_iff, beq_iff_eq, decide_eq_true_eq]; omega
    have e2 : v.bump = { v with calls := IntKind.wrap .i64 (v.calls + 1), step := v.step - 1 } := by unfold Dv.bump; rw [if_neg hne]
    rw [e]
    exact hK w2 ⟨(l1.fr f2 (by omega) (by omega) (by omega)).bump, by rw [e2]; exact hb2, h.bt, kp1.fr f2 (by omega)⟩ (f1.trans f2)
end

/-- One write is laid into the image. -/
theorem lay_h {w6 : World} {ow : Nat → Nat} {t b b2 n i ic sc : Nat} {ia sa : Option Addr} {img bs : List UInt8} {K : World → Prop} {R : Ending → World → Prop} (him : SlT w6 ow T_uint8 1 ia (n * 512) ic (bvs img) (t + 1)) (hn : n ≤ 8192) (hi : i < n) (hb : w6.cell? ⟨b, 0, none⟩ = some (.slice ia (n * 512) ic))
    (hb2 : Blk w6 b2 #[.int .i64 (i : Int), .slice sa bs.length sc] T_api_Pending) (ht2 : ow b2 ≠ t + 1) (hs : Rd w6 sa (bvs bs)) (hs0 : sa = none → bs = []) (hbl : bs.length ≤ 512)
    (h : ∀ w', SlT w' ow T_uint8 1 ia (n * 512) ic (bvs (ovr img (i * 512) bs)) (t + 1) → Fro (fun u => u ≠ t + 1) w6 ow w' ow → K w') :
    HeldF w6 fun S5 => (∃ (n6 : Int), (∀ w, S5 w → w.cell? ⟨b2, 0, none⟩ = some (.int .i64 n6)) ∧ (∃ (a5 : Option Addr) (l5 c5 : Nat), (∀ w, S5 w → w.cell? (Addr.add ⟨b2, 0, none⟩ 1) = some (.slice a5 l5 c5)) ∧ (CallF Try.prog F_sectors_Device_sector #[(.pointer (some ⟨b, 0, none⟩)), (.int .i64 n6)] w6.drew (fun r2 w7 => ∃ (a6 : Option Addr) (l6 c6 : Nat), r2 = (.slice a6 l6 c6) ∧ (S5 w7 ∧ (RunF Try.prog (Builtin.copy_ #[T_s_uint8, T_s_uint8] T_int #[(.slice a6 l6 c6), (.slice a5 l5 c5)]) w7 fun r3 w8 => ∃ (n7 : Int), r3 = (.int .i64 n7) ∧ (S5 w8 ∧ (K w8))))) (PanF R)))) := by
  have nb2 : ¬ Is ia b2 := fun hh => ht2 (him.tg b2 hh)
  have kd : Kp no w6 w6.drew := Kp.drew w6 1
  have fd : Fro (fun _ => True) w6 ow w6.drew ow := Fro.kp0 kd
  refine ⟨fun w' => Kp (Is ia) w6 w', kd.of_no, _, fun w' kz => c0 (kz.blk hb2 nb2) rfl, _, _, _, fun w' kz => cN (kz.blk hb2 nb2) rfl, ?_⟩
  refine sector_c (n := n) (i := i) (kd.cell hb id) hn him.sl.2.1 hi ⟨_, _, _, rfl, kd.of_no, ?_⟩
  refine copy_own (him.fr fd trivial) (hs.kp0 kd) hs0 hbl (by omega) fun w' hs' k' f' => ⟨_, rfl, kd.of_no.trans0 k', h w' hs' ((fd.mono fun _ _ => trivial).trans f')⟩

theorem clamp_e (n : Int) : (if (512 : Int) < (if (0 : Int) > n then (0 : Int) else n) then (512 : Int) else (if (0 : Int) > n then (0 : Int) else n)) = ((clampN n : Nat) : Int) := by
  unfold clampN
  split <;> split <;> omega
theorem clamp_le (n : Int) : clampN n ≤ 512 := by unfold clampN; omega

/-- A loss that is handed in. -/
structure Ls (w : World) (ow : Nat → Nat) (t : Nat) (a : Option Addr) (keep : List Nat) : Prop where
  rd : RdT w ow (Td t) a (keep.map u64v)
  lt : ∀ x ∈ keep, x < 18446744073709551616
  ln : keep.length * 8 ≤ 140737488355328
  nn : a = none → keep.length = 0
theorem Ls.fr {T : Nat → Prop} {w w' : World} {ow ow' : Nat → Nat} {t : Nat} {a : Option Addr} {keep : List Nat} (h : Ls w ow t a keep) (f : Fro T w ow w' ow') (hT : ∀ u, Td t u → T u) : Ls w' ow' t a keep := ⟨h.rd.fr f hT, h.lt, h.ln, h.nn⟩

theorem fallL_step (keep : List Nat) (torn off : Int) (q : List (Int × List UInt8)) (k : Nat) (img : List UInt8) (hk : k < q.length) :
    fallL keep torn off k (q.drop k) img = fallL keep torn off (k + 1) (q.drop (k + 1)) (if keptN keep k then ovr img ((q[k]).1.toNat * 512) (q[k]).2 else if (k : Int) = torn then ovr img ((q[k]).1.toNat * 512) ((q[k]).2.take (clampN off)) else img) := by
  rw [List.drop_eq_getElem_cons hk, fallL]
theorem syncL_step (q : List (Int × List UInt8)) (k : Nat) (img : List UInt8) (hk : k < q.length) : syncL (q.drop k) img = syncL (q.drop (k + 1)) (ovr img ((q[k]).1.toNat * 512) (q[k]).2) := by
  rw [List.drop_eq_getElem_cons hk, syncL]

set_option maxRecDepth 100000 in
theorem fall_c {w : World} {ow : Nat → Nat} {t b kc lc : Nat} {H : Dh} {Q : List PD} {ka la : Option Addr} {v : Dv} {keep : List Nat} {torn off : Int} {R : Ending → World → Prop} (h : DP w ow t b H Q ka kc v) (hl : Ls w ow t la keep) (hq : Q.length ≤ 1000000)
    (hK : ∀ H' w' ow', DP w' ow' t b H' [] none 0 (v.fall keep torn off) → Fro (fun u => u ≠ t ∧ u ≠ t + 1) w ow w' ow' → R (.returned (.int .i64 40)) w') :
    GoC Try.prog F_sectors_Device_fall #[.pointer (some ⟨b, 0, none⟩), .agg #[.slice la keep.length lc, .int .i64 torn, .int .i64 off]] w R := by
  refine S_sectors_Device_fall ?_
  unfold W_sectors_Device_fall
  have hok := h.l.ok
  have hn2 := hok.n2
  have hlen := hok.len
  refine AlF.intro fun b1 w1 hb1e hb1 k1 s1 => ?_
  have f1 : Fro (fun _ => True) w ow w1 (ext ow w.heap.size (t + 3)) := Fro.of_kp0 (t + 3) k1
  have ht1 : ext ow w.heap.size (t + 3) b1 = t + 3 := ext_new (by omega)
  have h1 := h.fr f1 trivial trivial trivial trivial
  have hl1 := hl.fr f1 fun _ _ => trivial
  generalize ext ow w.heap.size (t + 3) = ow1 at *
  refine ⟨_, _, _, cN h1.hb rfl, ?_⟩
  have hQv : ∀ k (hk : k < Q.length), v.q[k]? = some ((Q[k]).sec, (Q[k]).bs) := fun k hk => by rw [h.l.qv]; simp [hk, PD.v]
  have hql : v.q.length = Q.length := by rw [h.l.qv]; simp
  refine loopN (fun s w' => ∃ (k : Nat) (ow' : Nat → Nat) (img : List UInt8), s.1 = (k : Int) ∧ k ≤ Q.length ∧ img.length = v.n * 512 ∧ fallL keep torn off k (v.q.drop k) img = fallL keep torn off 0 v.q v.img ∧ SlT w' ow' T_uint8 1 H.ia (v.n * 512) H.ic (bvs img) (t + 1) ∧ Fro (fun u => u ≠ t + 1) w1 ow1 w' ow') (fun s _ => Q.length - s.1.toNat)
    ⟨0, ow1, v.img, rfl, by omega, hlen, by simp, by rw [← hlen]; exact h1.l.im, ⟨Kp.refl _ _, fun _ _ _ => rfl⟩⟩ ?_
  rintro ⟨k0, u⟩ w2 ⟨k, ow2, img, hk0, hk, hil, hfl, him, f2⟩ _
  dsimp only at hk0 ⊢
  subst hk0
  refine cond_d (fun hlt => ?_) (fun hge => ?_)
  · have hkl : k < Q.length := by omega
    have hkw : IntKind.wrap .i64 ((k : Int) + 1) = ((k + 1 : Nat) : Int) := by rw [wrap_i64 (by omega) (by omega)]; omega
    rw [hkw]
    have hpl2 := h1.l.pl.fr f2 (by omega)
    have hqk := hok.q ((Q[k]).sec, (Q[k]).bs) (List.mem_of_getElem? (hQv k hkl))
    dsimp only at hqk
    have hpb := (h1.l.pb _ (List.getElem_mem hkl)).fr f2 (by omega)
    refine pdI hpl2.sl.rd hkl rfl rfl ?_
    have hsec : (Q[k]).sec = (((Q[k]).sec.toNat : Nat) : Int) := by omega
    generalize hx : Q[k] = x at *
    refine AlF.intro fun b2 w3 hb2e hb2 k3 s3 => st2 hb2 fun w5 hb25 k5 s5 => ?_
    have k25 : Kp no w2 w5 := kp_blk k3 (by omega) k5
    have f5 : Fro (fun _ => True) w2 ow2 w5 (ext ow2 w2.heap.size (t + 3)) := Fro.of_kp0 (t + 3) k25
    have ht2 : ext ow2 w2.heap.size (t + 3) b2 = t + 3 := ext_new (by omega)
    have f15 : Fro (fun u => u ≠ t + 1) w1 ow1 w5 (ext ow2 w2.heap.size (t + 3)) := f2.trans (f5.mono fun _ _ => trivial)
    have him5 := him.fr f5 trivial
    have hpb5 := hpb.fr f5 trivial
    generalize ext ow2 w2.heap.size (t + 3) = ow5 at *
    obtain ⟨hb15, ht15⟩ := blk_fr hb1 ht1 f15 (by omega)
    refine ⟨_, _, _, _, _, ⟨c0 hb15 rfl, cN hb15 rfl, cN hb15 rfl, trivial⟩, ?_⟩
    refine kept_c (k := k) (hl1.fr f15 fun u hu => hu.2.1).rd.rd hl.lt (by have := hl.ln; omega) (by omega) fun w6 k6 => ⟨_, rfl, ?_⟩
    have f6 : Fro (fun _ => True) w5 ow5 w6 ow5 := Fro.kp0 k6
    have f16 := f15.trans (f6.mono fun _ _ => trivial)
    have him6 := him5.fr f6 trivial
    have hpb6 := hpb5.fr f6 trivial
    have h6 : DP w6 ow5 t b H Q ka kc v ∨ True := .inr trivial
    obtain ⟨hbd6, _⟩ := blk_fr h1.hb h1.bt f16 (by omega)
    have hbd6' : w6.cell? ⟨b, 0, none⟩ = some (.slice H.ia (v.n * 512) H.ic) := by rw [← hlen]; exact c0 hbd6 rfl
    have hb26 := k6.blk hb25 id
    have hb16 := k6.blk hb15 id
    have hst := fallL_step keep torn off v.q k img (by omega)
    have hvk : v.q[k]'(by omega) = (x.sec, x.bs) := by have := hQv k hkl; rw [List.getElem?_eq_getElem (by omega)] at this; simp only [hx] at this; exact Option.some.inj this
    rw [hvk] at hst
    dsimp only at hst
    have hx0 : x.a = none → x.bs = [] := fun h0 => by
      have := hpb6.sl
      rw [h0] at this
      obtain ⟨e1, _⟩ := this.zero
      exact List.eq_nil_of_length_eq_zero e1
    have fin : ∀ w' img', img'.length = v.n * 512 → fallL keep torn off (k + 1) (v.q.drop (k + 1)) img' = fallL keep torn off 0 v.q v.img → SlT w' ow5 T_uint8 1 H.ia (v.n * 512) H.ic (bvs img') (t + 1) → Fro (fun u => u ≠ t + 1) w6 ow5 w' ow5 →
        (∃ (k' : Nat) (ow' : Nat → Nat) (img : List UInt8), ((k + 1 : Nat) : Int) = (k' : Int) ∧ k' ≤ Q.length ∧ img.length = v.n * 512 ∧ fallL keep torn off k' (v.q.drop k') img = fallL keep torn off 0 v.q v.img ∧ SlT w' ow' T_uint8 1 H.ia (v.n * 512) H.ic (bvs img) (t + 1) ∧ Fro (fun u => u ≠ t + 1) w1 ow1 w' ow') ∧ Q.length - Int.toNat ((k + 1 : Nat) : Int) < Q.length - Int.toNat (k : Int) :=
      fun w' img' hl' he hs f => ⟨⟨k + 1, ow5, img', rfl, by omega, hl', he, hs, f16.trans f⟩, by simp only [Int.toNat_natCast]; omega⟩
    have hin : x.sec.toNat < v.n := by omega
    rw [hsec] at hb26
    refine cond_b (fun hkt => ?_) (fun hkf => ?_)
    · rw [if_pos hkt] at hst
      refine lay_h him6 hn2 hin hbd6' hb26 (by omega) hpb6.sl.rd hx0 (by omega) fun w8 hs8 f8 => fin w8 _ ?_ (by rw [← hst]; exact hfl) hs8 f8
      rw [ovr_len (by rw [hil]; omega)]
      exact hil
    · rw [hkf, if_neg (by decide)] at hst
      refine ⟨torn, cN hb16 rfl, cond_eq (fun hte => ?_) (fun htn => ?_)⟩
      · rw [if_pos hte] at hst
        have hcl := clamp_le off
        have nb2 : ¬ Is H.ia b2 := fun hh => by have := him6.tg b2 hh; omega
        have nb1 : ¬ Is H.ia b1 := fun hh => by have := him6.tg b1 hh; omega
        have kd : Kp no w6 w6.drew := Kp.drew w6 1
        have fd : Fro (fun _ => True) w6 ow5 w6.drew ow5 := Fro.kp0 kd
        refine ⟨fun w' => Kp (Is H.ia) w6 w', kd.of_no, _, fun w' kz => c0 (kz.blk hb26 nb2) rfl, _, _, _, fun w' kz => cN (kz.blk hb26 nb2) rfl, _, fun w' kz => cN (kz.blk hb16 nb1) rfl, ?_⟩
        rw [clamp_e]
        refine ⟨⟨by omega, by have := hpb6.sl.2.1; omega⟩, trivial, ?_⟩
        refine sector_c (n := v.n) (i := x.sec.toNat) (kd.cell hbd6' id) hn2 him6.sl.2.1 hin ⟨_, _, _, rfl, kd.of_no, ?_⟩
        rw [subA_zero, Int.toNat_natCast]
        have hbt : clampN off = (x.bs.take (clampN off)).length := by rw [List.length_take]; omega
        have hrd : Rd w6.drew x.a (bvs (x.bs.take (clampN off))) := by rw [← bvs_take]; exact (hpb6.sl.rd.take _).kp0 kd
        have hg := copy_own (sa := x.a) (bs := x.bs.take (clampN off)) (dl := 512) (dc := H.ic - x.sec.toNat * 512) (sc := x.c) (o := x.sec.toNat * 512) (him6.fr fd trivial) hrd (fun h0 => by rw [hx0 h0, List.take_nil]) (by omega) (by omega) (K := fun r3 w10 => ∃ (n11 : Int), r3 = (.int .i64 n11) ∧ ((Kp (Is H.ia) w6 w10) ∧ ((∃ (k' : Nat) (ow' : Nat → Nat) (img : List UInt8), ((k + 1 : Nat) : Int) = (k' : Int) ∧ k' ≤ Q.length ∧ img.length = v.n * 512 ∧ fallL keep torn off k' (v.q.drop k') img = fallL keep torn off 0 v.q v.img ∧ SlT w10 ow' T_uint8 1 H.ia (v.n * 512) H.ic (bvs img) (t + 1) ∧ Fro (fun u => u ≠ t + 1) w1 ow1 w10 ow') ∧ Q.length - Int.toNat ((k + 1 : Nat) : Int) < Q.length - Int.toNat (k : Int))))
          fun w' hs' k' f' => ⟨_, rfl, kd.of_no.trans0 k', fin w' _ (by rw [ovr_len (by rw [hil]; omega)]; exact hil) (by rw [← hst]; exact hfl) hs' ((fd.mono fun _ _ => trivial).trans f')⟩
        rw [← hbt] at hg
        exact hg
      · rw [if_neg htn] at hst
        exact fin w6 img hil (by rw [← hst]; exact hfl) him6 ⟨Kp.refl _ _, fun _ _ _ => rfl⟩
  · have hke : k = Q.length := by omega
    subst hke
    rw [List.drop_eq_nil_of_le (by omega), fallL] at hfl
    obtain ⟨hbd, hbt⟩ := blk_fr h1.hb h1.bt f2 (by omega)
    refine NilF.intro rfl (stb (add1 b 1) hbd hbt (by simp [Dh.cs]) fun w11 hb11 f11 s11 => NilF.intro rfl (stb (add1 b 6) hb11 hbt (by simp [Dh.cs]) fun w12 hb12 f12 s12 => NilF.intro rfl (stb (add1 b 2) hb12 hbt (by simp [Dh.cs]) fun w13 hb13 f13 s13 =>
      NilF.intro rfl (stb (add1 b 3) hb13 hbt (by simp [Dh.cs]) fun w14 hb14 f14 s14 => stb (add2 b 3 1) hb14 hbt (by simp [Dh.cs]) fun w15 hb15 f15 s15 => stb (add2 b 3 2) hb15 hbt (by simp [Dh.cs]) fun w16 hb16 f16 s16 => ?_))))
    have ff := ((((f11.trans f12).trans f13).trans f14).trans f15).trans f16
    have hfo := hok.fall keep torn off
    refine hK ⟨H.ia, H.ic, none, 0⟩ w16 ow2 ⟨⟨?_, slt_nil _ _ _ _ _, fun x hx => absurd hx (by simp), rfl, hfo⟩, ?_, hbt, slt_nil _ _ _ _ _⟩ (((f1.mono fun _ _ => trivial).trans (f2.mono fun u hu => hu.2)).trans (ff.mono fun u hu => hu.1))
    · show SlT w16 ow2 T_uint8 1 H.ia (fallL keep torn off 0 v.q v.img).length H.ic (bvs (fallL keep torn off 0 v.q v.img)) (t + 1)
      rw [← hfl, hil]
      exact him.fr ff (by omega)
    · have e : (fallL keep torn off 0 v.q v.img).length = v.img.length := by rw [← hfl, hil, hlen]
      show Blk w16 b #[.slice H.ia (fallL keep torn off 0 v.q v.img).length H.ic, .slice none 0 0, .int .i64 0, .slice none 0 0, .int .i64 0, .int .i64 0, .bool true, .int .i64 v.calls] T_sectors_Device
      rw [e]
      exact hb16
end Go.Proofs.Ytkfdkcclojepnaa
