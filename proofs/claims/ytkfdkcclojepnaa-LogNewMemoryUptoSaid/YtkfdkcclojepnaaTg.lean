/- The disk's Write, Arm, Image, Cache, New, Load: their contracts. Conditions: none. -/
import Derived.Test.YtkfdkcclojepnaaTf
set_option linter.unusedVariables false
set_option linter.unusedSimpArgs false
namespace Go.Proofs.Ytkfdkcclojepnaa
open Go Go.RowKit

/-- Bytes that are handed in. -/
structure Bs (w : World) (ow : Nat → Nat) (t : Nat) (a : Option Addr) (bs : List UInt8) : Prop where
  rd : RdT w ow (Td t) a (bvs bs)
  ln : bs.length ≤ 140737488355328
  nn : a = none → bs.length = 0
theorem Bs.fr {T : Nat → Prop} {w w' : World} {ow ow' : Nat → Nat} {t : Nat} {a : Option Addr} {bs : List UInt8} (h : Bs w ow t a bs) (f : Fro T w ow w' ow') (hT : ∀ u, Td t u → T u) : Bs w' ow' t a bs := ⟨h.rd.fr f hT, h.ln, h.nn⟩

theorem sl_some' {w : World} {e : TypeId} {a : Option Addr} {l c : Nat} {xs : List Value} (h : Sl w e 1 a l c xs) : a = none → l = 0 := fun h0 => by
  rw [h0] at h
  exact h.zero.1

section
variable {w : World} {ow : Nat → Nat} {t b : Nat} {v : Dv} {R : Ending → World → Prop}
set_option maxRecDepth 100000 in
theorem write_c {i : Int} {a : Option Addr} {c : Nat} {bs : List UInt8} (h : DX w ow t b v) (hr : Bs w ow t a bs) (hq : v.q.length ≤ 999999) (hln : v.keep.length * 8 ≤ 140737488355328)
    (hK : ∀ w' ow', DX w' ow' t b (v.write i bs).2 → Fro (Td t) w ow w' ow' → R (.returned (.int .i64 ((v.write i bs).1 : Int))) w') :
    GoC Try.prog F_sectors_Device_Write #[.pointer (some ⟨b, 0, none⟩), .int .i64 i, .slice a bs.length c] w R := by
  have hX := h
  obtain ⟨H, Q, ka, kc, h⟩ := h
  have hql : v.q.length = Q.length := by rw [h.l.qv]; simp
  refine S_sectors_Device_Write ?_
  unfold W_sectors_Device_Write
  have same : ∀ n, v.write i bs = (n, v) → R (.returned (.int .i64 (n : Int))) w := fun n e => by
    have := hK w ow (by rw [e]; exact hX) ⟨Kp.refl _ _, fun _ _ _ => rfl⟩
    rw [e] at this
    exact this
  refine ⟨v.down, cN h.hb rfl, cond_b (fun hd => ?_) (fun hd => ?_)⟩
  · exact same 40 (by unfold Dv.write; rw [if_pos hd])
  have ed : ∀ {A B : Nat × Dv}, (if v.down then A else B) = B := fun {A B} => by rw [hd, if_neg (by decide)]
  refine cond_d (fun hlt => ?_) (fun hge => ?_)
  · exact same 41 (by unfold Dv.write; rw [ed, if_pos (by unfold Dv.there; omega)])
  refine size_c hX ⟨_, rfl, cond_d (fun hge2 => ?_) (fun hlt2 => ?_)⟩
  · exact same 41 (by unfold Dv.write; rw [ed, if_pos (by unfold Dv.there; omega)])
  have hth : v.there i := by unfold Dv.there; omega
  refine cond_ne (fun hbl => ?_) (fun hbl => ?_)
  · exact same 42 (by unfold Dv.write; rw [ed, if_neg (by simpa using hth), if_pos (by omega)])
  have hb5 : bs.length = 512 := by omega
  refine crashes_c h fun w2 h2 f2 => ⟨_, rfl, ?_⟩
  have hr2 := (hr.fr f2 fun u hu => hu.1).rd.rd
  have kd : Kp no w2 w2.drew := Kp.drew w2 1
  have nb : ¬ Is H.pa b := fun hh => by have := h2.l.pl.tg b hh; have := h2.bt; omega
  refine ⟨fun w' => Kp (Is H.pa) w2 w', kd.of_no, _, _, _, fun w' kz => cN (kz.blk h2.hb nb) rfl, ?_⟩
  refine clone_c (hr2.kp0 kd) rfl hr.nn hr.ln fun a3 c3 w3 hsl3 k3 fr3 _ => ⟨_, _, _, rfl, (kd.trans0 k3).of_no, ?_⟩
  refine AlF.intro fun b1 w4 hb1e hb1 k4 s4 => ⟨((kd.trans0 k3).trans0 k4).of_no, ?_⟩
  have k24 := (kd.trans0 k3).trans0 k4
  have f4 : Fro (fun _ => True) w2 ow w4 (ext ow w2.heap.size (t + 3)) := Fro.of_kp0 (t + 3) k24
  have h4 := h2.fr f4 trivial trivial trivial trivial
  have hb4 : SlT w4 (ext ow w2.heap.size (t + 3)) T_uint8 1 a3 bs.length c3 (bvs bs) (t + 3) := ⟨hsl3.kp0 k4, fun j hj => ext_new (fr3 j hj)⟩
  generalize ext ow w2.heap.size (t + 3) = ow4 at *
  refine app_c er_pd h4.l.pl (rd_cells (xs := PD.cs ⟨i, a3, c3, bs⟩) hb1 rfl) rfl (fun h => by cases h) (fun u hu => by
    simp only [PD.cs, List.mem_cons, List.not_mem_nil, or_false] at hu
    rcases hu with rfl | rfl <;> rfl) (by omega) (by omega) fun a4 c4 w5 hs5 k5 f5 => ⟨_, _, _, rfl, k24.of_no.trans0 k5, ?_⟩
  obtain ⟨hbd5, hbt5⟩ := blk_fr h4.hb h4.bt f5 (by omega)
  refine NilF.intro rfl (stb (add1 b 1) hbd5 hbt5 (by simp [Dh.cs]) fun w6 hb6 f6 s6 => ?_)
  have f46 : Fro (fun u => u ≠ t ∧ u ≠ t + 2) w4 ow4 w6 (ext ow4 w4.heap.size (t + 2)) := (f5.mono fun u hu => hu.2).trans (f6.mono fun u hu => hu.1)
  have hokA := h2.l.ok.add (i := i) (b := bs) hth hb5
  have h6 : DP w6 (ext ow4 w4.heap.size (t + 2)) t b ⟨H.ia, H.ic, a4, c4⟩ (Q ++ [⟨i, a3, c3, bs⟩]) ka kc (v.bump.add i bs) := by
    refine ⟨⟨h4.l.im.fr f46 (by omega), ?_, fun x hx => ?_, ?_, hokA⟩, ?_, hbt5, h4.kp.fr f46 (by omega)⟩
    · have := hs5.fr f6 (by omega)
      rw [List.length_append]
      show SlT w6 _ T_api_Pending 2 a4 (Q.length + 1) c4 (fP (Q ++ [⟨i, a3, c3, bs⟩])) (t + 2)
      have e : fP (Q ++ [⟨i, a3, c3, bs⟩]) = fP Q ++ PD.cs ⟨i, a3, c3, bs⟩ := by unfold fP; rw [flatV_app]; simp [flatV]
      rw [e]
      exact this
    · rcases List.mem_append.1 hx with hx | hx
      · exact (h4.l.pb x hx).fr f46 (by omega)
      · rw [List.mem_singleton] at hx
        subst hx
        exact hb4.fr f46 (by omega)
    · show v.q ++ [(i, bs)] = (Q ++ ([⟨i, a3, c3, bs⟩] : List PD)).map PD.v
      rw [h.l.qv, List.map_append]
      rfl
    · rw [List.length_append]
      exact hb6
  have f06 : Fro (Td t) w ow w6 (ext ow4 w4.heap.size (t + 2)) := ((f2.mono fun u hu => hu.1).trans (f4.mono fun _ _ => trivial)).trans (f46.mono fun u hu => ⟨hu.1, hu.2.2⟩)
  refine cond_d (fun hs => ?_) (fun hs => ?_)
  · have e : v.write i bs = (40, (v.bump.add i bs).fall v.keep v.torn v.off) := by unfold Dv.write; rw [ed, if_neg (by simpa using hth), if_neg (by omega), if_pos hs]
    refine ⟨_, _, _, _, _, ⟨cN h6.hb rfl, cNM h6.hb rfl, cNM h6.hb rfl, trivial⟩, fall_c (v := v.bump.add i bs) (keep := v.keep) h6 (kp_ls (v := v.bump.add i bs) h6 hln) (by rw [List.length_append]; simp; omega) fun H' w' ow' h' f' => ⟨_, rfl, ?_⟩⟩
    have := hK w' ow' (by rw [e]; exact ⟨H', [], none, 0, h'⟩) (f06.trans (f'.mono fun u hu => ⟨hu.1, hu.2.1⟩))
    rw [e] at this
    exact this
  · have e : v.write i bs = (0, v.bump.add i bs) := by unfold Dv.write; rw [ed, if_neg (by simpa using hth), if_neg (by omega), if_neg hs]
    have hX6 : DX w6 (ext ow4 w4.heap.size (t + 2)) t b (v.write i bs).2 := by rw [e]; exact ⟨_, _, _, _, h6⟩
    have := hK w6 _ hX6 f06
    rw [e] at this
    exact this

theorem arm_c {step : Int} {la : Option Addr} {lc : Nat} {keep : List Nat} {torn off : Int} (h : DX w ow t b v) (hl : Ls w ow t la keep) (hs : step ≤ 9223372036854775807)
    (hK : ∀ w' ow', DX w' ow' t b (v.arm step keep torn off).2 → Fro (Td t) w ow w' ow' → R (.returned (.int .i64 ((v.arm step keep torn off).1 : Int))) w') :
    GoC Try.prog F_sectors_Device_Arm #[.pointer (some ⟨b, 0, none⟩), .int .i64 step, .agg #[.slice la keep.length lc, .int .i64 torn, .int .i64 off]] w R := by
  obtain ⟨H, Q, ka, kc, h⟩ := h
  refine S_sectors_Device_Arm ?_
  unfold W_sectors_Device_Arm
  refine AlF.intro fun b1 w1 hb1e hb1 k1 s1 => ?_
  have f1 : Fro (fun _ => True) w ow w1 (ext ow w.heap.size (t + 3)) := Fro.of_kp0 (t + 3) k1
  have ht1 : ext ow w.heap.size (t + 3) b1 = t + 3 := ext_new (by omega)
  have h1 := h.fr f1 trivial trivial trivial trivial
  have hl1 := hl.fr f1 fun _ _ => trivial
  generalize ext ow w.heap.size (t + 3) = ow1 at *
  have same : ∀ n, v.arm step keep torn off = (n, v) → R (.returned (.int .i64 (n : Int))) w1 := fun n e => by
    have := hK w1 ow1 (by rw [e]; exact ⟨H, Q, ka, kc, h1⟩) (f1.mono fun _ _ => trivial)
    rw [e] at this
    exact this
  refine ⟨v.down, cN h1.hb rfl, cond_b (fun hd => ?_) (fun hd => cond_d (fun hneg => ?_) (fun hnn => ?_))⟩
  · exact same 40 (by unfold Dv.arm; rw [if_pos hd])
  · exact same 4 (by unfold Dv.arm; rw [hd, if_neg (by decide), if_pos hneg])
  have e : v.arm step keep torn off = (0, { v with step := step, keep := keep, torn := torn, off := off }) := by unfold Dv.arm; rw [hd, if_neg (by decide), if_neg hnn]
  refine NilF.intro rfl (stb (add1 b 2) h1.hb h1.bt (by simp [Dh.cs]) fun w2 hb2 f2 s2 => ?_)
  have kd : Kp no w2 w2.drew := Kp.drew w2 1
  have hb12 := f2.kp.blk hb1 (fun hn => hn (by rw [ht1]; omega))
  have nb1 : ¬ b1 = b := fun hh => by have := h1.bt; rw [← hh] at this; omega
  have hr2 := (hl1.fr f2 fun u hu => hu.1).rd.rd
  refine ⟨fun w' => Kp (fun k => k = b) w2 w', kd.of_no, _, _, _, fun w' kz => c0 (kz.blk hb12 nb1) rfl, _, fun w' kz => cN (kz.blk hb12 nb1) rfl, _, fun w' kz => cN (kz.blk hb12 nb1) rfl, ?_⟩
  refine clone64_c (hr2.kp0 kd) rfl hl.nn hl.ln fun a3 c3 w3 hsl3 k3 fr3 => ⟨_, _, _, rfl, (kd.trans0 k3).of_no, ?_⟩
  have k23 := kd.trans0 k3
  have f3 : Fro (fun _ => True) w2 ow1 w3 (ext ow1 w2.heap.size (t + 3)) := Fro.of_kp0 (t + 3) k23
  have hb3 := k23.blk hb2 id
  have hbt3 : ext ow1 w2.heap.size (t + 3) b = t := by rw [ext_old hb2.lt]; exact h1.bt
  have hk3 : SlT w3 (ext ow1 w2.heap.size (t + 3)) T_uint64 1 a3 keep.length c3 (keep.map u64v) (t + 3) := ⟨hsl3, fun j hj => ext_new (fr3 j hj)⟩
  have l3 := ((h1.l.fr f2 (by omega) (by omega) (by omega)).fr f3 trivial trivial trivial)
  refine NilF.intro rfl (StF.at (add1 b 3) hb3 (by simp [Dh.cs]) fun w4 hb4 k4 s4 => StF.at (add2 b 3 1) hb4 (by simp [Dh.cs]) fun w5 hb5 k5 s5 => StF.at (add2 b 3 2) hb5 (by simp [Dh.cs]) fun w6 hb6 k6 s6 => ?_)
  have k36 := (k4.trans0 k5).trans0 k6
  have f6 : Fro (fun u => u ≠ t) w3 (ext ow1 w2.heap.size (t + 3)) w6 (ext ow1 w2.heap.size (t + 3)) := Fro.of_kp' k36 fun b' _ hb' hne => hne (by rw [hb']; exact hbt3)
  have l6 := l3.fr f6 (by omega) (by omega) (by omega)
  refine ⟨k23.of_no.trans0 k36, ?_⟩
  have := hK w6 (ext ow1 w2.heap.size (t + 3)) (by
    rw [e]
    refine ⟨H, Q, a3, c3, ⟨l6.im, l6.pl, l6.pb, l6.qv, ?_⟩, hb6, hbt3, hk3.fr f6 (by omega)⟩
    have := h.l.ok.arm torn off hs hl.lt (step := step) (keep := keep)
    rw [e] at this
    exact this) ((((f1.mono fun _ _ => trivial).trans (f2.mono fun u hu => hu.1)).trans (f3.mono fun _ _ => trivial)).trans (f6.mono fun u hu => hu.1))
  rw [e] at this
  exact this

theorem image_c (h : DX w ow t b v) (hK : ∀ a' c' w', Sl w' T_uint8 1 a' v.img.length c' (bvs v.img) → Kp no w w' → Fresh w a' → R (.returned (.slice a' v.img.length v.img.length)) w') : GoC Try.prog F_sectors_Device_Image #[.pointer (some ⟨b, 0, none⟩)] w R := by
  obtain ⟨H, Q, ka, kc, h⟩ := h
  have hlen := h.l.ok.len
  have hn2 := h.l.ok.n2
  refine S_sectors_Device_Image ?_
  unfold W_sectors_Device_Image
  refine ⟨_, _, _, c0 h.hb rfl, clone_c h.l.im.sl.rd rfl (sl_some' h.l.im.sl) (by omega) fun a' c' w' hs k fr _ => ⟨_, _, _, rfl, clip_c hs.2.1 ⟨_, _, _, rfl, hK a' c' w' hs k fr⟩⟩⟩

/-- A new disk. -/
theorem dev_new {w1 w2 : World} {b1 ic : Nat} {ia : Option Addr} {img : List UInt8} (k1 : Kp no w w1) (him : Sl w1 T_uint8 1 ia img.length ic (bvs img)) (fr : Fresh w ia) (hok : (Dv.load img).Ok) (hb : Blk w2 b1 #[.slice ia img.length ic, .slice none 0 0, .int .i64 0, .slice none 0 0, .int .i64 0, .int .i64 0, .bool false, .int .i64 0] T_sectors_Device) (k2 : Kp no w1 w2) (hbe : b1 = w1.heap.size) (t : Nat) :
    ∃ ow', DX w2 ow' t b1 (Dv.load img) ∧ ∀ j, j < w.heap.size → ow' j = ow j := by
  have sz := k1.size
  refine ⟨tag (Is ia) (t + 1) (ext ow w.heap.size t), ⟨⟨ia, ic, none, 0⟩, [], none, 0, ⟨⟨him.kp0 k2, fun j hj => tag_in hj⟩, slt_nil _ _ _ _ _, fun x hx => absurd hx (by simp), rfl, hok⟩, hb, ?_, slt_nil _ _ _ _ _⟩, fun j hj => ?_⟩
  · rw [tag_out fun hh => by have := him.lt b1 hh; omega, ext_new (by omega)]
  · rw [tag_out fun hh => by have := fr j hh; omega, ext_old hj]
theorem new_c {n : Nat} (h1 : 1 ≤ n) (h2 : n ≤ 8192) (t : Nat) (hK : ∀ b w' ow', DX w' ow' t b (Dv.new n) → Kp no w w' → (∀ j, j < w.heap.size → ow' j = ow j) → w.heap.size ≤ b → R (.returned (.tuple #[.pointer (some ⟨b, 0, none⟩), .int .i64 0])) w') : GoC Try.prog F_sectors_New #[.int .i64 (n : Int)] w R := by
  refine S_sectors_New ?_
  unfold W_sectors_New
  refine cond_f (decide_eq_false (by omega)) (cond_f (decide_eq_false (by omega)) ?_)
  have e : IntKind.wrap .i64 ((n : Int) * 512) = ((n * 512 : Nat) : Int) := by rw [wrap_i64 (by omega) (by omega)]; omega
  rw [e]
  refine make_u8 (n := n * 512) (by omega) fun bi w1 cur hbi hcur k1 hbe => ⟨_, _, _, rfl, AlF.intro fun b1 w2 hb1e hb1 k2 s2 => ?_⟩
  have hl : (List.replicate (n * 512) (0 : UInt8)).length = n * 512 := List.length_replicate
  have him : Sl w1 T_uint8 1 (some ⟨bi, 0, none⟩) (List.replicate (n * 512) (0 : UInt8)).length (n * 512) (bvs (List.replicate (n * 512) (0 : UInt8))) := by
    refine ⟨by rw [bvs_len]; omega, by omega, .inr ⟨bi, cur, rfl, hbi, ?_, ?_⟩⟩
    · have := congrArg List.length hcur
      rw [bvs_len, hl] at this
      simpa using this
    · rw [hcur, List.take_of_length_le (by rw [bvs_len]; omega)]
  obtain ⟨ow', hd, ho⟩ := dev_new (ow := ow) (img := List.replicate (n * 512) 0) (b1 := b1) (w2 := w2) k1 him (fun k hk => by obtain ⟨_, he, rfl⟩ := hk; cases he; show w.heap.size ≤ bi; omega) (Dv.Ok.load hl h1 h2) (by rw [hl]; exact hb1) k2 hb1e t
  exact hK b1 w2 ow' hd (k1.trans0 k2) ho (by have := k1.size; omega)
theorem new_bad_c {n : Int} (h : n < 1 ∨ 8192 < n) (hK : R (.returned (.tuple #[.pointer none, .int .i64 4])) w) : GoC Try.prog F_sectors_New #[.int .i64 n] w R := by
  refine S_sectors_New ?_
  unfold W_sectors_New
  refine cond_d (fun h1 => hK) (fun h1 => cond_d (fun h2 => hK) (fun h2 => ?_))
  omega
end
end Go.Proofs.Ytkfdkcclojepnaa
