/- One call of a script; ops as they come in; what is cached, compared. Conditions: none. -/
import Derived.Test.YtkhdmbgcbogndaaTs
set_option linter.unusedVariables false
set_option linter.unusedSimpArgs false
namespace Go.Proofs.Ytkhdmbgcbogndaa
open Go Go.RowKit Go.ChangeShapes Go.WideShapes

/-- One call. -/
structure OpV where
  kind : Int
  two : Bool
  i : Int
  f : UInt8
  len : Int
  la : Option Addr
  lc : Nat
  keep : List Nat
  torn : Int
  off : Int
def OpV.cs (o : OpV) : List Value := [.int .i64 o.kind, .bool o.two, .int .i64 o.i, .int .u8 (o.f.toNat : Int), .int .i64 o.len, .slice o.la o.keep.length o.lc, .int .i64 o.torn, .int .i64 o.off]
theorem OpV.cs_len (o : OpV) : o.cs.length = 8 := rfl
def fO : List OpV → List Value := flatV OpV.cs
instance : Inhabited OpV := ⟨⟨0, false, 0, 0, 0, none, 0, [], 0, 0⟩⟩
structure OpV.Ok (W : World) (o : OpV) : Prop where
  i : -9223372036854775808 ≤ o.i ∧ o.i ≤ 9223372036854775807
  l : LossOk W o.la o.keep.length o.keep o.torn o.off
structure OpsOk (W : World) (a : Option Addr) (l c : Nat) (L : List OpV) : Prop where
  n : L.length = l
  rd : Rd W a (fO L)
  ok : ∀ x ∈ L, x.Ok W
theorem op_open {W : World} {cs : List Value} (h : ClW Try.prog W T_quotalaw03_Op cs) : ∃ x : OpV, cs = x.cs ∧ x.Ok W := by
  have hl := h.cl.slen (s := 8) (by kernel_rfl)
  have f0 := h.cl.field 0 (e := T_int) (o := 0) (s := 1) (by kernel_rfl)
  have f1 := h.cl.field 1 (e := T_bool) (o := 1) (s := 1) (by kernel_rfl)
  have f2 := h.cl.field 2 (e := T_int) (o := 2) (s := 1) (by kernel_rfl)
  have f3 := h.cl.field 3 (e := T_uint8) (o := 3) (s := 1) (by kernel_rfl)
  have f4 := h.cl.field 4 (e := T_int) (o := 4) (s := 1) (by kernel_rfl)
  have f5 := h.field 5 (e := T_api_Loss) (o := 5) (s := 3) (by kernel_rfl)
  match cs, hl with
  | [x0, x1, x2, x3, x4, x5, x6, x7], _ =>
    simp only [List.drop_zero, List.drop_succ_cons, List.take_succ_cons, List.take_zero] at f0 f1 f2 f3 f4 f5
    obtain ⟨k, h0, w0⟩ := f0.int (k := .i64) (by kernel_rfl)
    obtain ⟨t, h1⟩ := f1.bool (by kernel_rfl)
    obtain ⟨i, h2, w2⟩ := f2.int (k := .i64) (by kernel_rfl)
    obtain ⟨g, h3, w3⟩ := f3.int (k := .u8) (by kernel_rfl)
    obtain ⟨n, h4, w4⟩ := f4.int (k := .i64) (by kernel_rfl)
    obtain ⟨m, rfl⟩ := u8_wf w3
    obtain ⟨a, l, c, keep, torn, off, h5, hL⟩ := loss_open' f5
    cases h0; cases h1; cases h2; cases h3; cases h4; cases h5
    have hn := hL.n
    subst hn
    exact ⟨⟨k, t, i, m, n, a, c, keep, torn, off⟩, rfl, i64_wf w2, hL⟩
theorem weights_all {H : Type} {P : Program} {e : TypeId} : ∀ {ds : List (DataW H)} {d : DataW H}, d ∈ ds → ∀ n ∈ d.weights P e, n ∈ DataW.weightsAll P e ds
  | d0 :: r, d, hd, n, hn => by
    rw [DataW.weightsAll, List.mem_append]
    rcases List.mem_cons.1 hd with rfl | hd
    · exact .inl hn
    · exact .inr (weights_all hd n hn)
/-- Elements of a list, each within the form's own reach. -/
theorem ClW.cells {P : Program} {W : World} {t e : TypeId} {a : Option Addr} {l c : Nat} {s : Nat} (ht : P.underlying t = some (.slice e)) (hs : P.cellsOf e = s) (hs0 : 0 < s) (h : ClW P W t [.slice a l c]) :
    ∃ css : Nat → List Value, (∀ i, i < l → ClW P W e (css i)) ∧ ∀ i, i < l → ∀ (q : Nat) v, (css i)[q]? = some v → ∃ b o, a = some ⟨b, o, none⟩ ∧ W.cell? ⟨b, o + i * s + q, none⟩ = some v := by
  obtain ⟨H, enc, fuel, x, hf, hw⟩ := h
  rcases Deep.open_slice ht hf with ⟨h, _⟩ | ⟨ad, len, cap, m, n, D, Pl, h, _, hl, hm, hmm, hx, hall⟩
  · cases h
    exact ⟨fun _ => [], fun i hi => by omega, fun i hi => by omega⟩
  · cases h
    have each : ∀ i, i < l → ∃ cs : List Value, cs.length = s ∧ (∀ j v, cs[j]? = some v → W.cell? ((ad.add (i * s)).add j) = some v) ∧ ClW P W e cs := fun i hi => by
      obtain ⟨cs, g1, g2⟩ := hall i (by simp only [if_true] at hmm; omega)
      obtain ⟨g3, g4⟩ := cells_row g1
      rw [hs] at g3 g4
      refine ⟨cs, g3, g4, H, enc, n, _, g2, fun k hk => hw k ?_⟩
      subst hx
      simp only [DataW.weights, ht]
      refine List.mem_cons_of_mem _ (List.mem_append.2 (.inl (weights_all (d := D i) ?_ k hk)))
      exact List.mem_map.2 ⟨i, List.mem_range.2 hi, rfl⟩
    obtain ⟨css, hcss⟩ := Deep.choose_lt (α := List Value) (p := fun i cs => cs.length = s ∧ (∀ j v, cs[j]? = some v → W.cell? ((ad.add (i * s)).add j) = some v) ∧ ClW P W e cs) each
    refine ⟨css, fun i hi => (hcss i hi).2.2, fun i hi j v hv => ?_⟩
    have hsp : ad.spot = none := by
      have h0 := hcss 0 (by omega)
      have hlt : 0 < (css 0).length := by omega
      have hc := h0.2.1 0 _ (List.getElem?_eq_getElem hlt)
      rw [Nat.zero_mul] at hc
      have ea : (ad.add 0).add 0 = ad := by simp [Addr.add]
      rw [ea] at hc
      unfold World.cell? at hc
      split at hc
      · cases hs : ad.spot with
        | none => rfl
        | some s => rw [hs] at hc; cases hc
      · cases hc
    obtain ⟨b, o, sp⟩ := ad
    simp only at hsp
    subst hsp
    refine ⟨b, o, rfl, ?_⟩
    have := (hcss i hi).2.1 j v hv
    rwa [add_at, add_at] at this
theorem ops_open {W : World} {v : Value} (h : ArgW Try.prog W T_s_quotalaw03_Op v) : ∃ a l c L, v = .slice a l c ∧ OpsOk W a l c L := by
  obtain ⟨a, l, c, rfl, hc⟩ := h.arg.slice (e := T_quotalaw03_Op) (by kernel_rfl)
  have hw : ClW Try.prog W T_s_quotalaw03_Op [.slice a l c] := h.clw
  obtain ⟨css, h1, h2⟩ := hw.cells (e := T_quotalaw03_Op) (s := 8) (by kernel_rfl) (by kernel_rfl) (by omega)
  have each : ∀ i, i < l → ∃ x : OpV, css i = x.cs ∧ x.Ok W := fun i hi => op_open (h1 i hi)
  obtain ⟨f, hf⟩ := Deep.choose_lt (α := OpV) (p := fun i x => css i = x.cs ∧ x.Ok W) each
  refine ⟨a, l, c, (List.range l).map f, rfl, by simp, rd_flat OpV.cs_len (by omega) fun i hi q v hv => ?_, fun x hx => ?_⟩
  · have hil : i < l := by simpa using hi
    have e : ((List.range l).map f)[i] = f i := by simp
    rw [e] at hv
    exact h2 i hil q v (by rw [(hf i hil).1]; exact hv)
  · simp only [List.mem_map, List.mem_range] at hx
    obtain ⟨i, hi, rfl⟩ := hx
    exact (hf i hi).2

/-- An op in a list. -/
theorem opI {w : World} {a : Option Addr} {L : List OpV} (h : Rd w a (fO L)) {k : Nat} (hk : k < L.length) {n : Int} (hn : n = (k : Int)) {l : Nat} (hl : L.length = l) {K : Int → Bool → Int → Int → Int → Option Addr → Nat → Nat → Int → Int → Prop} (hK : K (L[k]).kind (L[k]).two (L[k]).i ((L[k]).f.toNat : Int) (L[k]).len (L[k]).la (L[k]).keep.length (L[k]).lc (L[k]).torn (L[k]).off) :
    IdxF a n l fun d => ∃ (n7 : Int) (q2 : Bool) (n8 : Int) (n9 : Int) (n10 : Int) (a4 : Option Addr) (l4 c4 : Nat) (n11 : Int) (n12 : Int), (w.cell? (d.add (Int.toNat n * 8)) = some (.int .i64 n7) ∧ w.cell? (Addr.add (d.add (Int.toNat n * 8)) 1) = some (.bool q2) ∧ w.cell? (Addr.add (d.add (Int.toNat n * 8)) 2) = some (.int .i64 n8) ∧ w.cell? (Addr.add (d.add (Int.toNat n * 8)) 3) = some (.int .u8 n9) ∧ w.cell? (Addr.add (d.add (Int.toNat n * 8)) 4) = some (.int .i64 n10) ∧ w.cell? (Addr.add (d.add (Int.toNat n * 8)) 5) = some (.slice a4 l4 c4) ∧ w.cell? (Addr.add (d.add (Int.toNat n * 8)) 6) = some (.int .i64 n11) ∧ w.cell? (Addr.add (d.add (Int.toNat n * 8)) 7) = some (.int .i64 n12) ∧ True) ∧ K n7 q2 n8 n9 n10 a4 l4 c4 n11 n12 := by
  subst hn
  have hg : ∀ q, q < 8 → (fO L)[k * 8 + q]? = (L[k]).cs[q]? := fun q hq => flatV_get OpV.cs_len L k hk q hq
  have h0 := hg 0 (by omega)
  obtain ⟨b, o, ha, _⟩ := h (k * 8 + 0) (.int .i64 (L[k]).kind) (by rw [h0]; rfl)
  have hc : ∀ q v, q < 8 → (L[k]).cs[q]? = some v → w.cell? ⟨b, o + (k * 8 + q), none⟩ = some v := fun q v hq hv => by
    obtain ⟨b', o', ha', hc'⟩ := h (k * 8 + q) v (by rw [hg q hq]; exact hv)
    rw [ha] at ha'
    cases ha'
    exact hc'
  refine ⟨by omega, by omega, _, ha, _, _, _, _, _, _, _, _, _, _, ⟨?_, ?_, ?_, ?_, ?_, ?_, ?_, ?_, trivial⟩, hK⟩ <;> rw [Int.toNat_natCast]
  · rw [add_at]; exact hc 0 _ (by omega) rfl
  all_goals rw [add_at, add_at, Nat.add_assoc]
  · exact hc 1 _ (by omega) rfl
  · exact hc 2 _ (by omega) rfl
  · exact hc 3 _ (by omega) rfl
  · exact hc 4 _ (by omega) rfl
  · exact hc 5 _ (by omega) rfl
  · exact hc 6 _ (by omega) rfl
  · exact hc 7 _ (by omega) rfl

/-! ### One call, plain -/
def Dv.call (v : Dv) (o : OpV) : (Nat × List UInt8) × Dv :=
  if o.kind = 1 then (((v.read (o.i % ((v.n : Int) + 1))).2, (v.read (o.i % ((v.n : Int) + 1))).1), v)
  else if o.kind = 2 then (((v.write (o.i % ((v.n : Int) + 1)) (fillN o.f (lenO o.len))).1, []), (v.write (o.i % ((v.n : Int) + 1)) (fillN o.f (lenO o.len))).2)
  else if o.kind = 3 then ((v.sync.1, []), v.sync.2)
  else if o.kind = 4 then (((v.arm (o.i % 9 - 1) o.keep o.torn o.off).1, []), (v.arm (o.i % 9 - 1) o.keep o.torn o.off).2)
  else if o.kind = 5 then (((v.crash o.keep o.torn o.off).1, []), (v.crash o.keep o.torn o.off).2)
  else if o.kind = 6 then ((0, []), v.up)
  else ((0, []), v)
/-- A list of what is kept is short. -/
def Kl (v : Dv) : Prop := v.keep.length * 8 ≤ 140737488355328
theorem mod_in {i n : Int} (hn : 1 ≤ n) : 0 ≤ i % n ∧ i % n < n := ⟨Int.emod_nonneg _ (by omega), Int.emod_lt_of_pos _ (by omega)⟩
theorem Dv.write_q (v : Dv) (i : Int) (bs : List UInt8) : (v.write i bs).2.q.length ≤ v.q.length + 1 := by
  unfold Dv.write
  split
  · exact Nat.le_succ _
  · split
    · exact Nat.le_succ _
    · split
      · exact Nat.le_succ _
      · split
        · simp [Dv.fall]
        · simp [Dv.add, Dv.bump]
theorem Dv.call_q (v : Dv) (o : OpV) : (v.call o).2.q.length ≤ v.q.length + 1 := by
  unfold Dv.call
  split
  · exact Nat.le_succ _
  split
  · exact Dv.write_q _ _ _
  split
  · unfold Dv.sync
    split
    · exact Nat.le_succ _
    · split <;> simp [Dv.fall, Dv.synced]
  split
  · unfold Dv.arm
    split
    · exact Nat.le_succ _
    · split <;> exact Nat.le_succ _
  split
  · unfold Dv.crash
    split
    · exact Nat.le_succ _
    · simp [Dv.fall]
  split <;> exact Nat.le_succ _
theorem Kl.write {v : Dv} (h : Kl v) (i : Int) (bs : List UInt8) : Kl (v.write i bs).2 := by
  unfold Dv.write
  split
  · exact h
  · split
    · exact h
    · split
      · exact h
      · split
        · simp [Kl, Dv.fall]
        · exact h
theorem Kl.call {v : Dv} (h : Kl v) {o : OpV} (ho : o.keep.length * 8 ≤ 140737488355328) : Kl (v.call o).2 := by
  unfold Dv.call
  split
  · exact h
  split
  · exact h.write _ _
  split
  · unfold Dv.sync
    split
    · exact h
    · split
      · simp [Kl, Dv.fall]
      · exact h
  split
  · unfold Dv.arm
    split
    · exact h
    · split
      · exact h
      · exact ho
  split
  · unfold Dv.crash
    split
    · exact h
    · simp [Kl, Dv.fall]
  split <;> exact h

set_option maxRecDepth 100000 in
theorem step_c {w : World} {ow : Nat → Nat} {t b : Nat} {v : Dv} {o : OpV} {U : Nat → Prop} {R : Ending → World → Prop} (h : DX w ow t b v) (hi : -9223372036854775808 ≤ o.i ∧ o.i ≤ 9223372036854775807) (hl : RdT w ow U o.la (o.keep.map u64v)) (hU : ∀ u, U u → Td t u) (hlt : ∀ x ∈ o.keep, x < 18446744073709551616) (hln : o.keep.length * 8 ≤ 140737488355328) (hnn : o.la = none → o.keep.length = 0)
    (hq : v.q.length ≤ 900000) (hk : Kl v)
    (hK : ∀ a' l' c' w' ow', DX w' ow' t b (v.call o).2 → Fro (Td t) w ow w' ow' → SlT w' ow' T_uint8 1 a' l' c' (bvs (v.call o).1.2) (t + 3) → R (.returned (.tuple #[.int .i64 ((v.call o).1.1 : Int), .slice a' l' c'])) w') :
    GoC Try.prog F_law03_step #[.pointer (some ⟨b, 0, none⟩), .agg o.cs.toArray] w R := by
  refine S_law03_step ?_
  unfold W_law03_step
  refine AlF.intro fun b1 w1 hb1e hb1 k1 s1 => ?_
  have f1 : Fro (fun _ => True) w ow w1 (ext ow w.heap.size (t + 3)) := Fro.of_kp0 (t + 3) k1
  have ht1 : ext ow w.heap.size (t + 3) b1 = t + 3 := ext_new (by omega)
  have h1 := h.fr f1 trivial trivial trivial trivial
  have hl1 := hl.fr f1 fun _ _ => trivial
  generalize ext ow w.heap.size (t + 3) = ow1 at *
  have nil_ : ∀ (n : Nat) (v' : Dv) w' ow', v.call o = ((n, []), v') → DX w' ow' t b v' → Fro (Td t) w1 ow1 w' ow' → R (.returned (.tuple #[.int .i64 (n : Int), .slice none 0 0])) w' := fun n v' w' ow' e hD f => by
    have := hK none 0 0 w' ow' (by rw [e]; exact hD) ((f1.mono fun _ _ => trivial).trans f) (by rw [e]; exact slt_nil _ _ _ _ _)
    rw [e] at this
    exact this
  have hn1 := h.ok.n1
  have hn2 := h.ok.n2
  have hnw : IntKind.wrap .i64 ((v.n : Int) + 1) = (v.n : Int) + 1 := wrap_i64 (by omega) (by omega)
  have kd : Kp no w1 w1.drew := Kp.drew w1 1
  have fd : Fro (fun _ => True) w1 ow1 w1.drew ow1 := Fro.kp0 kd
  have hbd := kd.blk hb1 id
  have hb1' : ∀ w', Blk w' b1 o.cs.toArray T_quotalaw03_Op → ∀ i x, o.cs[i]? = some x → w'.cell? (Addr.add ⟨b1, 0, none⟩ i) = some x := fun w' hb i x hx => by rw [add1, hb.cell]; simpa using hx
  refine ⟨o.kind, by rw [hb1.cell]; rfl, cond_eq (fun hk1 => ?_) (fun hk1 => cond_eq (fun hk2 => ?_) (fun hk2 => cond_eq (fun hk3 => ?_) (fun hk3 => cond_eq (fun hk4 => ?_) (fun hk4 => cond_eq (fun hk5 => ?_) (fun hk5 => cond_eq (fun hk6 => ?_) (fun hk6 => ?_))))))⟩
  · have e : v.call o = (((v.read (o.i % ((v.n : Int) + 1))).2, (v.read (o.i % ((v.n : Int) + 1))).1), v) := by unfold Dv.call; rw [if_pos hk1]
    refine ⟨fun w' => Blk w' b1 o.cs.toArray T_quotalaw03_Op, hbd, o.i, fun w' hb => hb1' w' hb 2 _ rfl, size_c (h1.kp0 kd) ⟨_, rfl, hbd, ?_⟩⟩
    rw [hnw]
    refine brought_c (by omega) (by omega) hi.1 hi.2 ⟨_, rfl, hbd, readX_c (h1.kp0 kd) (by omega) fun a' l' c' w' k' hs' fr' => ⟨_, _, _, _, rfl, k'.blk hbd id, num_c ⟨_, rfl, ?_⟩⟩⟩
    have k1' := kd.trans0 k'
    have fk : Fro (fun _ => True) w1 ow1 w' (ext ow1 w1.heap.size (t + 3)) := Fro.of_kp0 (t + 3) k1'
    have := hK a' l' c' w' _ (by rw [e]; exact h1.fr fk trivial trivial trivial trivial) ((f1.mono fun _ _ => trivial).trans (fk.mono fun _ _ => trivial)) (by rw [e]; exact ⟨hs', fun j hj => ext_new (by have := fr' j hj; have := kd.size; omega)⟩)
    rw [e] at this
    exact this
  · have e : v.call o = (((v.write (o.i % ((v.n : Int) + 1)) (fillN o.f (lenO o.len))).1, []), (v.write (o.i % ((v.n : Int) + 1)) (fillN o.f (lenO o.len))).2) := by unfold Dv.call; rw [if_neg hk1, if_pos hk2]
    refine ⟨fun w' => Blk w' b1 o.cs.toArray T_quotalaw03_Op, hbd, o.i, fun w' hb => hb1' w' hb 2 _ rfl, _, _, _, _, _, _, _, _, _, _, fun w' hb => ⟨by rw [hb.cell]; rfl, hb1' w' hb 1 _ rfl, hb1' w' hb 2 _ rfl, hb1' w' hb 3 _ rfl, hb1' w' hb 4 _ rfl, hb1' w' hb 5 _ rfl, hb1' w' hb 6 _ rfl, hb1' w' hb 7 _ rfl, trivial⟩, size_c (h1.kp0 kd) ⟨_, rfl, hbd, ?_⟩⟩
    rw [hnw]
    refine brought_c (by omega) (by omega) hi.1 hi.2 ⟨_, rfl, hbd, filled_c fun a3 w3 hs3 k3 fr3 => ⟨_, _, _, rfl, k3.blk hbd id, ?_⟩⟩
    have f3 : Fro (fun _ => True) w1.drew ow1 w3 (ext ow1 w1.drew.heap.size (t + 3)) := Fro.of_kp0 (t + 3) k3
    have hA3 : SlT w3 (ext ow1 w1.drew.heap.size (t + 3)) T_uint8 1 a3 (lenO o.len) (lenO o.len) (bvs (fillN o.f (lenO o.len))) (t + 3) := SlT.new hs3 fr3 (t + 3)
    have hle := lenO_le o.len
    have ht3 : ext ow1 w1.drew.heap.size (t + 3) b1 = t + 3 := by rw [ext_old hbd.lt]; exact ht1
    refine write_l (v := v) ((h1.kp0 kd).fr f3 trivial trivial trivial trivial) (hA3.bs ⟨by omega, by omega, by omega⟩ (by rw [fillN_len]; omega)) (fillN_len _ _) (by omega) hk fun w4 ow4 hD4 f4 => ⟨_, rfl, ?_⟩
    have hb4 := (blk_fr (k3.blk hbd id) ht3 f4 ⟨by omega, by omega, by omega⟩).1
    exact ⟨hb4, num_c ⟨_, rfl, hb4, nil_ _ _ w4 ow4 e hD4 (((fd.mono fun _ _ => trivial).trans (f3.mono fun _ _ => trivial)).trans f4)⟩⟩
  · have e : v.call o = ((v.sync.1, []), v.sync.2) := by unfold Dv.call; rw [if_neg hk1, if_neg hk2, if_pos hk3]
    exact sync_c h1 (by omega) hk fun w4 ow4 hD4 f4 => ⟨_, rfl, num_c ⟨_, rfl, nil_ _ _ w4 ow4 e hD4 f4⟩⟩
  · have e : v.call o = (((v.arm (o.i % 9 - 1) o.keep o.torn o.off).1, []), (v.arm (o.i % 9 - 1) o.keep o.torn o.off).2) := by unfold Dv.call; rw [if_neg hk1, if_neg hk2, if_neg hk3, if_pos hk4]
    have hb9 := brought9 (x := o.i)
    have hw9 : IntKind.wrap .i64 (o.i % 9 - 1) = o.i % 9 - 1 := wrap_i64 (by omega) (by omega)
    have c5 : ∀ w', Blk w' b1 o.cs.toArray T_quotalaw03_Op → w'.cell? (Addr.add ⟨b1, 0, none⟩ 5) = some (.slice o.la o.keep.length o.lc) ∧ w'.cell? (Addr.add (Addr.add ⟨b1, 0, none⟩ 5) 1) = some (.int .i64 o.torn) ∧ w'.cell? (Addr.add (Addr.add ⟨b1, 0, none⟩ 5) 2) = some (.int .i64 o.off) ∧ True := fun w' hb => ⟨hb1' w' hb 5 _ rfl, by rw [add2, hb.cell]; rfl, by rw [add2, hb.cell]; rfl, trivial⟩
    refine ⟨fun w' => Blk w' b1 o.cs.toArray T_quotalaw03_Op, hbd, o.i, fun w' hb => hb1' w' hb 2 _ rfl, _, _, _, _, _, fun w' hb => c5 w' hb, brought_c (n := 9) (by decide) (by decide) hi.1 hi.2 ⟨_, rfl, hbd, ?_⟩⟩
    rw [hw9]
    refine arm_c (h1.kp0 kd) ⟨(hl1.fr fd fun _ _ => trivial).mono hU, hlt, hln, hnn⟩ (by omega) fun w4 ow4 hD4 f4 => ⟨_, rfl, ?_⟩
    have hb4 := (blk_fr hbd ht1 f4 ⟨by omega, by omega, by omega⟩).1
    exact ⟨hb4, num_c ⟨_, rfl, hb4, nil_ _ _ w4 ow4 e hD4 ((fd.mono fun _ _ => trivial).trans f4)⟩⟩
  · have e : v.call o = (((v.crash o.keep o.torn o.off).1, []), (v.crash o.keep o.torn o.off).2) := by unfold Dv.call; rw [if_neg hk1, if_neg hk2, if_neg hk3, if_neg hk4, if_pos hk5]
    refine ⟨_, _, _, _, _, ⟨hb1' w1 hb1 5 _ rfl, by rw [add2, hb1.cell]; rfl, by rw [add2, hb1.cell]; rfl, trivial⟩, crash_c h1 ⟨hl1.mono hU, hlt, hln, hnn⟩ (by omega) fun w4 ow4 hD4 f4 => ⟨_, rfl, num_c ⟨_, rfl, nil_ _ _ w4 ow4 e hD4 f4⟩⟩⟩
  · have e : v.call o = ((0, []), v.up) := by unfold Dv.call; rw [if_neg hk1, if_neg hk2, if_neg hk3, if_neg hk4, if_neg hk5, if_pos hk6]
    exact up_c h1 fun w4 ow4 hD4 f4 => ⟨_, rfl, num_c ⟨_, rfl, nil_ 0 _ w4 ow4 e hD4 f4⟩⟩
  · have e : v.call o = ((0, []), v) := by unfold Dv.call; rw [if_neg hk1, if_neg hk2, if_neg hk3, if_neg hk4, if_neg hk5, if_neg hk6]
    exact nil_ 0 _ w1 ow1 e h1 ⟨Kp.refl _ _, fun _ _ _ => rfl⟩

/-- Two lists of pending writes, compared. -/
theorem cached_c {w : World} {a1 a2 : Option Addr} {c1 c2 : Nat} {X Y : List PD} {R : Ending → World → Prop} (h1 : Rd w a1 (fP X)) (h2 : Rd w a2 (fP Y)) (hx : ∀ x ∈ X, Rd w x.a (bvs x.bs) ∧ (x.a = none → x.bs.length = 0)) (hy : ∀ x ∈ Y, Rd w x.a (bvs x.bs) ∧ (x.a = none → x.bs.length = 0)) (he : X.map PD.v = Y.map PD.v) (hl : X.length ≤ 1000000)
    (h : ∀ w', Kp no w w' → R (.returned (.bool true)) w') : GoC Try.prog F_law03_cached #[.slice a1 X.length c1, .slice a2 Y.length c2] w R := by
  have hlen : X.length = Y.length := by have := congrArg List.length he; simpa using this
  refine S_law03_cached ?_
  unfold W_law03_cached
  refine cond_f (by rw [hlen]; simp) ?_
  refine loopN (fun s w' => Kp no w w' ∧ ∃ k : Nat, s.1 = (k : Int)) (fun s _ => X.length - s.1.toNat) ⟨Kp.refl _ _, 0, rfl⟩ ?_
  rintro ⟨k0, u⟩ w1 ⟨k1, k, hk0⟩ _
  dsimp only at hk0 ⊢
  subst hk0
  refine cond_d (fun hlt => ?_) (fun hge => h w1 k1)
  have hk : k < X.length := by omega
  have hk' : k < Y.length := by omega
  have hkw : IntKind.wrap .i64 ((k : Int) + 1) = ((k + 1 : Nat) : Int) := by rw [wrap_i64 (by omega) (by omega)]; omega
  rw [hkw]
  have hv : (X[k]).v = (Y[k]).v := by
    have := congrArg (fun l => l[k]?) he
    simpa [hk, hk'] using this
  have hs : (X[k]).sec = (Y[k]).sec := congrArg Prod.fst hv
  have hb : (X[k]).bs = (Y[k]).bs := congrArg Prod.snd hv
  have kd := k1.trans0 (Kp.drew w1 1)
  have ex : ∀ {w' : World} {a : Option Addr} {Z : List PD} {l : Nat}, Rd w' a (fP Z) → Z.length = l → ∀ (hz : k < Z.length), ∃ b o, a = some ⟨b, o, none⟩ ∧ w'.cell? ((⟨b, o, none⟩ : Addr).add (k * 2)) = some (.int .i64 (Z[k]).sec) ∧ w'.cell? (Addr.add ((⟨b, o, none⟩ : Addr).add (k * 2)) 1) = some (.slice (Z[k]).a (Z[k]).bs.length (Z[k]).c) := fun {w' a Z l} hr hl hz => by
    have g0 := flatV_get PD.cs_len Z k hz 0 (by omega)
    have g1 := flatV_get PD.cs_len Z k hz 1 (by omega)
    obtain ⟨b, o, ha, hc0⟩ := hr (k * 2 + 0) (.int .i64 (Z[k]).sec) (by unfold fP; rw [g0]; rfl)
    obtain ⟨b', o', ha', hc1⟩ := hr (k * 2 + 1) (.slice (Z[k]).a (Z[k]).bs.length (Z[k]).c) (by unfold fP; rw [g1]; rfl)
    rw [ha] at ha'
    cases ha'
    exact ⟨b, o, ha, by rw [add_at]; exact hc0, by rw [add_at, add_at, Nat.add_assoc]; exact hc1⟩
  obtain ⟨bx, ox, hax, x0, x1⟩ := ex (h1.kp0 kd) rfl hk
  obtain ⟨by_, oy, hay, y0, y1⟩ := ex (h2.kp0 kd) rfl hk'
  obtain ⟨rx, nx⟩ := hx _ (List.getElem_mem hk)
  obtain ⟨ry, ny⟩ := hy _ (List.getElem_mem hk')
  refine ⟨by omega, hlt, _, hax, _, by rw [Int.toNat_natCast]; exact x0, by omega, by omega, _, hay, _, by rw [Int.toNat_natCast]; exact y0, cond_f (by rw [hs]; simp) ⟨by omega, hlt, _, hax, _, _, _, by rw [Int.toNat_natCast]; exact x1, by omega, by omega, _, hay, _, _, _, by rw [Int.toNat_natCast]; exact y1, ?_⟩⟩
  refine same_c (rx.kp0 kd) rfl nx (ry.kp0 kd) rfl ny ⟨_, rfl, cond_f (by rw [hb]; simp) ⟨⟨kd, k + 1, rfl⟩, by simp only [Int.toNat_natCast]; omega⟩⟩
end Go.Proofs.Ytkhdmbgcbogndaa
