/- The statements' example holds. Conditions: none. -/
import Derived.Test.YtkhdmbgcbogndaaTi
set_option linter.unusedVariables false
set_option linter.unusedSimpArgs false
namespace Go.Proofs.Ytkhdmbgcbogndaa
open Go Go.RowKit

section
variable {w : World} {ow : Nat → Nat} {t b : Nat} {v : Dv} {R : Ending → World → Prop}
theorem write_l {i : Int} {a : Option Addr} {l c : Nat} {bs : List UInt8} (h : DX w ow t b v) (hr : Bs w ow t a bs) (hl : bs.length = l) (hq : v.q.length ≤ 999999) (hln : v.keep.length * 8 ≤ 140737488355328)
    (hK : ∀ w' ow', DX w' ow' t b (v.write i bs).2 → Fro (Td t) w ow w' ow' → R (.returned (.int .i64 ((v.write i bs).1 : Int))) w') :
    GoC Try.prog F_sectors_Device_Write #[.pointer (some ⟨b, 0, none⟩), .int .i64 i, .slice a l c] w R := by
  subst hl
  exact write_c h hr hq hln hK
theorem SlT.bs {a : Option Addr} {l c u : Nat} {bs : List UInt8} (h : SlT w ow T_uint8 1 a l c (bvs bs) u) (hu : u ≠ t ∧ u ≠ t + 1 ∧ u ≠ t + 2) (hl : bs.length ≤ 140737488355328) : Bs w ow t a bs :=
  ⟨h.rdT.mono fun x hx => by rw [hx]; exact hu, hl, fun h0 => by have := h.sl.len; rw [bvs_len] at this; rw [this]; exact sl_some' h.sl h0⟩
theorem ls_nil : Ls w ow t none [] := ⟨fun i v hv => by simp at hv, fun x hx => (by cases hx), by simp, fun _ => rfl⟩
theorem SlT.new {w' : World} {a : Option Addr} {e : TypeId} {s l c : Nat} {xs : List Value} (h : Sl w' e s a l c xs) (fr : Fresh w a) (u : Nat) : SlT w' (ext ow w.heap.size u) e s a l c xs u := ⟨h, fun j hj => ext_new (fr j hj)⟩
end

set_option maxRecDepth 100000 in
theorem awake_c {w : World} {R : Ending → World → Prop} (h : ∀ w', Kp no w w' → R (.returned (.bool true)) w') : GoC Try.prog F_law03_awake #[] w R := by
  refine S_law03_awake ?_
  unfold W_law03_awake
  obtain ⟨g1, g2, g3, g4, g5, g6, g7, g8, g9, g10, g11, g12, g13, g14, g15, g16, q1, q2, q3, q6, k1', k2', k3', k5', q0, q5⟩ := awF
  refine new_c (n := 3) (ow := fun _ => 0) (by decide) (by decide) 50 fun b w1 ow1 hD1 k1 ho1 hb1 => ⟨_, _, rfl, ?_⟩
  have hO1 : Old w w1 ow1 := ⟨k1, ho1⟩
  refine new_bad_c (by decide) ⟨_, _, rfl, cond_f rfl (num_c ⟨_, rfl, cond_f rfl (num_c ⟨_, rfl, cond_f rfl (size_c hD1 ⟨_, rfl, cond_f (by decide +kernel) ?_⟩)⟩)⟩)⟩
  have el : lenO 0 = 512 := by decide
  refine filled_c (f := 7) fun a1 w2 hs2 k2 fr2 => ⟨_, _, _, rfl, ?_⟩
  rw [el] at hs2 ⊢
  have f2 : Fro (fun _ => True) w1 ow1 w2 (ext ow1 w1.heap.size 1) := Fro.of_kp0 1 k2
  have hA2 : SlT w2 (ext ow1 w1.heap.size 1) T_uint8 1 a1 512 512 (bvs awA) 1 := SlT.new hs2 fr2 1
  have hD2 := hD1.fr f2 trivial trivial trivial trivial
  have hO2 := hO1.fr f2 trivial
  generalize ext ow1 w1.heap.size 1 = ow2 at *
  refine filled_c (f := 9) fun a2 w3 hs3 k3 fr3 => ⟨_, _, _, rfl, ?_⟩
  rw [el] at hs3 ⊢
  have f3 : Fro (fun _ => True) w2 ow2 w3 (ext ow2 w2.heap.size 1) := Fro.of_kp0 1 k3
  have hB3 : SlT w3 (ext ow2 w2.heap.size 1) T_uint8 1 a2 512 512 (bvs awB) 1 := SlT.new hs3 fr3 1
  have hA3 := hA2.fr f3 trivial
  have hD3 := hD2.fr f3 trivial trivial trivial trivial
  have hO3 := hO2.fr f3 trivial
  generalize ext ow2 w2.heap.size 1 = ow3 at *
  have la : awA.length = 512 := fillN_len _ _
  have lb : awB.length = 512 := fillN_len _ _
  have z0 : ([] : List Nat).length * 8 ≤ 140737488355328 := by simp
  refine write_l (v := aw0) (bs := awA) hD3 (hA3.bs (by decide) (by omega)) la (by rw [q0]; decide) (by rw [show aw0.keep = [] from rfl]; exact z0) fun w4 ow4 hD4 f4 => ⟨_, rfl, num_c ⟨_, rfl, cond_f (by rw [g1]; rfl) ?_⟩⟩
  have hA4 := hA3.fr f4 (by decide)
  have hB4 := hB3.fr f4 (by decide)
  have hO4 := hO3.fr f4 (by decide)
  refine write_l (v := aw1) (bs := awB) hD4 (hB4.bs (by decide) (by omega)) lb (by rw [q1]; decide) (by rw [k1']; exact z0) fun w5 ow5 hD5 f5 => ⟨_, rfl, num_c ⟨_, rfl, cond_f (by rw [g2]; rfl) ?_⟩⟩
  have hA5 := hA4.fr f5 (by decide)
  have hO5 := hO4.fr f5 (by decide)
  refine sync_c (v := aw2) hD5 (by rw [q2]; decide) (by rw [k2']; exact z0) fun w6 ow6 hD6 f6 => ⟨_, rfl, num_c ⟨_, rfl, cond_f (by rw [g3]; rfl) ?_⟩⟩
  have hA6 := hA5.fr f6 (by decide)
  have hO6 := hO5.fr f6 (by decide)
  refine write_l (v := aw3) (bs := awA) hD6 (hA6.bs (by decide) (by omega)) la (by rw [q3]; decide) (by rw [k3']; exact z0) fun w7 ow7 hD7 f7 => ⟨_, rfl, num_c ⟨_, rfl, cond_f (by rw [g4]; rfl) ?_⟩⟩
  have hO7 := hO6.fr f7 (by decide)
  refine cache_c (v := aw4) hD7 (by rw [g5]; decide) fun a c X w8 hC _ => ⟨_, _, _, rfl, cond_f (by rw [g5]; rfl) ?_⟩
  have hD8 := hD7.kp0 hC.k
  have hO8 := hO7.fr (Fro.kp0 hC.k) trivial
  refine crash_c (v := aw4) (keep := []) hD8 ls_nil (by rw [g5]; decide) fun w9 ow9 hD9 f9 => ⟨_, rfl, num_c ⟨_, rfl, cond_f (by rw [g6]; rfl) ?_⟩⟩
  have hO9 := hO8.fr f9 (by decide)
  refine down_c (v := aw5) hD9 ⟨_, rfl, cond_f (by rw [g7]; rfl) ?_⟩
  refine sync_c (v := aw5) hD9 (by rw [q5]; decide) (by rw [k5']; exact z0) fun w10 ow10 hD10 f10 => ⟨_, rfl, num_c ⟨_, rfl, cond_f (by rw [g8]; rfl) ?_⟩⟩
  have hO10 := hO9.fr f10 (by decide)
  have e5 : aw5.sync.2 = aw5 := by unfold Dv.sync; rw [if_pos g7]
  rw [e5] at hD10
  refine up_c (v := aw5) hD10 fun w11 ow11 hD11 f11 => ⟨_, rfl, num_c ⟨_, rfl, cond_f rfl ?_⟩⟩
  have hO11 := hO10.fr f11 (by decide)
  refine calls_c (v := aw6) hD11 ⟨_, rfl, cond_f (by rw [g9]; rfl) ?_⟩
  refine readX_c (v := aw6) (i := 1) hD11 (by rw [q6]; decide) fun a4 l4 c4 w12 k12 hs12 fr12 => ⟨_, _, _, _, rfl, num_c ⟨_, rfl, ?_⟩⟩
  have l4e : l4 = 512 := by have := hs12.len; rw [bvs_len, g11] at this; exact this.symm
  subst l4e
  have hO12 := hO11.fr (Fro.kp0 k12) trivial
  have hD12 := hD11.kp0 k12
  refine cond_t (by rw [g10]; rfl) (cond_t rfl ?_)
  obtain ⟨b4, o4, ha4, _, hc4⟩ := hs12.rd.addr (fun h0 => by have := congrArg List.length h0; rw [bvs_len, g11] at this; simp at this)
  have e7 : (bvs (aw6.read 1).1)[1]? = some (bv 7) := by rw [bvs, List.getElem?_map, g12]; rfl
  have e9 : (bvs (aw6.read 1).1)[2]? = some (bv 9) := by rw [bvs, List.getElem?_map, g13]; rfl
  refine ⟨by decide, by decide, _, ha4, 7, by rw [show Int.toNat 1 = 1 from rfl, add_at]; exact hc4 1 _ e7, cond_t rfl ⟨by decide, by decide, _, ha4, 9, by rw [show Int.toNat 2 = 2 from rfl, add_at]; exact hc4 2 _ e9, cond_t rfl ?_⟩⟩
  refine image_c (v := aw6) hD12 fun a5 c5 w13 hs13 k13 fr13 => ⟨_, _, _, rfl, ?_⟩
  have hl13 := hs13.2.1
  rw [g16] at hs13 hl13 ⊢
  refine ⟨⟨by decide, by decide⟩, ⟨by decide, by decide⟩, ?_⟩
  have hO13 := hO12.fr (Fro.kp0 k13) trivial
  have hrd : Rd w13 (subA a5 1536 512 1) (bvs (aw6.read 1).1) := by
    rw [← g14, ← bvs_take]
    exact (rd_drop hs13.rd (by rw [g16]; omega)).take _
  have nn5 : subA a5 1536 512 1 = none → (512 : Nat) = 0 := fun h0 => by
    obtain ⟨_, _, he, _⟩ := hrd 1 _ e7
    rw [h0] at he
    cases he
  refine same_c hrd (by rw [g11]; rfl) nn5 (hs12.rd.kp0 k13) g11 (fun h0 => by rw [h0] at ha4; cases ha4) ⟨_, rfl, cond_t (by simp) ?_⟩
  refine arm_c (v := aw6) (keep := []) (step := -1) (hD12.kp0 k13) ls_nil (by decide) fun w14 ow14 hD14 f14 => ⟨_, rfl, num_c ⟨_, rfl, ?_⟩⟩
  have hO14 := hO13.fr f14 (by decide)
  rw [g15]
  exact h w14 hO14.kp
end Go.Proofs.Ytkhdmbgcbogndaa
