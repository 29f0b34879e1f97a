/- The statements' table of layer 2; the contract of 'writes'. Conditions: as its bounds say. -/
import Derived.Test.YtplfoedgekdjgaaDoorHf
set_option linter.unusedVariables false
set_option linter.unusedSimpArgs false
namespace Go.Proofs.YtplfoedgekdjgaaDoor
open Go Go.RowKit

def tabCs (p s r d : Bool → Value) (l m : Value) : Array Value := #[p false, p true, s false, s true, r false, r true, d false, d true, l, m]
def ix (j : Bool) : Nat := if j then 1 else 0
def tw (j : Bool) : Nat := if j then 4 else 2
def tr (j : Bool) : Nat := if j then 8 else 6
def updB (f : Bool → Value) (j : Bool) (v : Value) : Bool → Value := fun i => if i = j then v else f i
theorem tab_size (p s r d : Bool → Value) (l m : Value) : (tabCs p s r d l m).size = 10 := rfl
theorem ix_lt (j : Bool) : ((ix j : Nat) : Int) < 2 := by cases j <;> decide
theorem ix_eq (j : Bool) : (if j = true then (1 : Int) else 0) = ((ix j : Nat) : Int) := by cases j <;> rfl

section
variable {w : World} {tb : Nat} {p s r d : Bool → Value} {l m : Value} {T : TypeId} {j : Bool} {v : Value} {K : World → Prop}
theorem tab_p (h : Blk w tb (tabCs p s r d l m) T) : w.cell? (Addr.add ⟨tb, 0, none⟩ (Int.toNat ((ix j : Nat) : Int))) = some (p j) := by
  rw [Int.toNat_natCast, add_at, h.cell]; cases j <;> rfl
theorem tab_s (h : Blk w tb (tabCs p s r d l m) T) : w.cell? (Addr.add (Addr.add ⟨tb, 0, none⟩ 2) (Int.toNat ((ix j : Nat) : Int))) = some (s j) := by
  rw [Int.toNat_natCast, add_at, add_at, h.cell]; cases j <;> rfl
theorem tab_r (h : Blk w tb (tabCs p s r d l m) T) : w.cell? (Addr.add (Addr.add ⟨tb, 0, none⟩ 4) (Int.toNat ((ix j : Nat) : Int))) = some (r j) := by
  rw [Int.toNat_natCast, add_at, add_at, h.cell]; cases j <;> rfl
theorem tab_d (h : Blk w tb (tabCs p s r d l m) T) : w.cell? (Addr.add (Addr.add ⟨tb, 0, none⟩ 6) (Int.toNat ((ix j : Nat) : Int))) = some (d j) := by
  rw [Int.toNat_natCast, add_at, add_at, h.cell]; cases j <;> rfl
theorem st_p (h : Blk w tb (tabCs p s r d l m) T) (hk : ∀ w', Blk w' tb (tabCs (updB p j v) s r d l m) T → Kp (fun k => k = tb) w w' → w'.heap.size = w.heap.size → K w') :
    StF w (Addr.add ⟨tb, 0, none⟩ (Int.toNat ((ix j : Nat) : Int))) v K := by
  rw [Int.toNat_natCast, add_at]
  refine StF.intro h (by rw [tab_size]; cases j <;> decide) fun w' hb k1 h1 => hk w' ?_ k1 h1
  cases j <;> exact hb
theorem st_s (h : Blk w tb (tabCs p s r d l m) T) (hk : ∀ w', Blk w' tb (tabCs p (updB s j v) r d l m) T → Kp (fun k => k = tb) w w' → w'.heap.size = w.heap.size → K w') :
    StF w (Addr.add (Addr.add ⟨tb, 0, none⟩ 2) (Int.toNat ((ix j : Nat) : Int))) v K := by
  rw [Int.toNat_natCast, add_at, add_at]
  refine StF.intro h (by rw [tab_size]; cases j <;> decide) fun w' hb k1 h1 => hk w' ?_ k1 h1
  cases j <;> exact hb
theorem st_r (h : Blk w tb (tabCs p s r d l m) T) (hk : ∀ w', Blk w' tb (tabCs p s (updB r j v) d l m) T → Kp (fun k => k = tb) w w' → w'.heap.size = w.heap.size → K w') :
    StF w (Addr.add (Addr.add ⟨tb, 0, none⟩ 4) (Int.toNat ((ix j : Nat) : Int))) v K := by
  rw [Int.toNat_natCast, add_at, add_at]
  refine StF.intro h (by rw [tab_size]; cases j <;> decide) fun w' hb k1 h1 => hk w' ?_ k1 h1
  cases j <;> exact hb
theorem st_d (h : Blk w tb (tabCs p s r d l m) T) (hk : ∀ w', Blk w' tb (tabCs p s r (updB d j v) l m) T → Kp (fun k => k = tb) w w' → w'.heap.size = w.heap.size → K w') :
    StF w (Addr.add (Addr.add ⟨tb, 0, none⟩ 6) (Int.toNat ((ix j : Nat) : Int))) v K := by
  rw [Int.toNat_natCast, add_at, add_at]
  refine StF.intro h (by rw [tab_size]; cases j <;> decide) fun w' hb k1 h1 => hk w' ?_ k1 h1
  cases j <;> exact hb
end

/-- The table of two writers and two readers, the document's beside them, and its book. -/
structure TabP (w : World) (ow : Nat → Nat) (tb M n : Nat) (p s r d : Bool → Value) (l m : Value) : Prop where
  blk : Blk w tb (tabCs p s r d l m) T_quotalaw02_Table
  own : ow tb = 1
  wr : ∀ j, WrI w ow (tw j) M (p j) (s j)
  rd : ∀ j, RdI w ow (tr j) (r j) (d j)
  bk : BkI w ow n l m
def TabI (w : World) (ow : Nat → Nat) (tb M n : Nat) : Prop := ∃ p s r d l m, TabP w ow tb M n p s r d l m

theorem tw_le (j : Bool) : tw j + 1 ≤ 5 ∧ 2 ≤ tw j := by cases j <;> decide
theorem tr_le (j : Bool) : tr j + 1 ≤ 9 ∧ 6 ≤ tr j := by cases j <;> decide
theorem tw_ne {i j : Bool} (h : i ≠ j) : tw i ≠ tw j ∧ tw i ≠ tw j + 1 ∧ tw i + 1 ≠ tw j := by cases i <;> cases j <;> first | exact absurd rfl h | decide
theorem tr_ne {i j : Bool} (h : i ≠ j) : tr i ≠ tr j ∧ tr i ≠ tr j + 1 ∧ tr i + 1 ≠ tr j := by cases i <;> cases j <;> first | exact absurd rfl h | decide

theorem TabP.fr {T : Nat → Prop} {w w' : World} {ow ow' : Nat → Nat} {tb M n M' n' : Nat} {p s r d : Bool → Value} {l m : Value} (h : TabP w ow tb M n p s r d l m) (f : Fro T w ow w' ow') (ht : ∀ t, t ≤ 12 → T t) (hM : M ≤ M') (hn : n ≤ n') : TabP w' ow' tb M' n' p s r d l m := by
  refine ⟨f.kp.blk h.blk fun hn => hn (by rw [h.own]; exact ht 1 (by omega)), ?_, fun j => ?_, fun j => ?_, h.bk.fr f (ht _ (by omega)) (ht _ (by omega)) (ht _ (by omega)) hn⟩
  · rw [f.ag tb h.blk.lt (by rw [h.own]; exact ht 1 (by omega)), h.own]
  · have := tw_le j
    exact (h.wr j).fr f (ht _ (by omega)) (ht _ (by omega)) hM
  · have := tr_le j
    exact (h.rd j).fr f (ht _ (by omega)) (ht _ (by omega))

/-- The calls of a writer leave a table again. -/
theorem tab_wrote {w0 w2 w3 w5 w6 : World} {ow : Nat → Nat} {tb M n M' : Nat} {p s r d : Bool → Value} {l m : Value} {j : Bool} {B c7 : Nat} {g g' a a7 : Option Addr} {bs' : List UInt8}
    (hold : Old w0 w2 ow) (hT : TabP w2 ow tb M n p s r d l m) (tg : Tg ow (tw j) (fpW B g)) (ta : Tg ow (tw j + 1) (Is a)) (hBlt : B < w2.heap.size) (hglt : ∀ k, Is g k → k < w2.heap.size) (halt : ∀ k, Is a k → k < w2.heap.size)
    (hp : p j = .pointer (some ⟨B, 0, none⟩)) (hM : M ≤ M') (hb : bs'.length ≤ M')
    (hw3 : Wr w3 B g' bs') (k3 : Kp (fpW B g) w2 w3) (hi3 : ∀ k, Is g' k → Is g k ∨ w2.heap.size ≤ k)
    (hs5 : Sl w5 T_uint8 1 a7 bs'.length c7 (bvs bs')) (k5 : Kp (Is a) w3 w5) (hi5 : ∀ k, Is a7 k → Is a k ∨ w3.heap.size ≤ k)
    (hb6 : Blk w6 tb (tabCs p (updB s j (.slice a7 bs'.length c7)) r d l m) T_quotalaw02_Table) (k6 : Kp (fun k => k = tb) w5 w6) :
    ∃ ow', Old w0 w6 ow' ∧ TabI w6 ow' tb M' n := by
  have hj := tw_le j
  have s3 := k3.size
  have s5 := k5.size
  have old : ∀ k, k < w2.heap.size → ext (ext ow w2.heap.size (tw j)) w3.heap.size (tw j + 1) k = ow k := fun k hk => by rw [ext_old (by omega), ext_old hk]
  have fro : Fro (fun t => t ≠ tw j ∧ t ≠ tw j + 1 ∧ t ≠ 1) w2 ow w6 (ext (ext ow w2.heap.size (tw j)) w3.heap.size (tw j + 1)) := by
    refine ⟨?_, fun k hk _ => old k hk⟩
    refine ((k3.trans k5 (S'' := fun k => ¬ (ow k ≠ tw j ∧ ow k ≠ tw j + 1 ∧ ow k ≠ 1)) ?_ ?_).trans k6 (fun _ _ h => h) ?_)
    · exact fun k _ hk ht => ht.1 (tg k hk)
    · exact fun k _ hk ht => ht.2.1 (ta k hk)
    · exact fun k _ hk ht => by subst hk; exact ht.2.2 hT.own
  refine ⟨_, hold.fr fro ⟨by omega, by omega, by omega⟩, p, updB s j (.slice a7 bs'.length c7), r, d, l, m, hb6, by rw [old tb hT.blk.lt, hT.own], fun i => ?_, fun i => ?_, hT.bk.fr fro ⟨by omega, by omega, by omega⟩ ⟨by omega, by omega, by omega⟩ ⟨by omega, by omega, by omega⟩ (Nat.le_refl _)⟩
  · by_cases hij : i = j
    · subst hij
      have hnB : B ≠ tb := fun hh => by have := tg B (.inl rfl); rw [hh, hT.own] at this; omega
      have ng : ∀ k, fpW B g' k → ¬ Is a k ∧ k ≠ tb := by
        intro k hk
        have hlt := hT.blk.lt
        refine ⟨fun h1 => ?_, fun h1 => ?_⟩
        · have ho := ta k h1
          have := halt k h1
          rcases hk with h2 | h2
          · have := tg k (.inl h2); omega
          · rcases hi3 k h2 with h3 | h3
            · have := tg k (.inr h3); omega
            · omega
        · subst h1
          rcases hk with h2 | h2
          · exact hnB h2.symm
          · rcases hi3 k h2 with h3 | h3
            · have := tg k (.inr h3); have := hT.own; omega
            · omega
      have na7 : ∀ k, Is a7 k → k ≠ tb := fun k hk hh => by
        subst hh
        have hlt := hT.blk.lt
        rcases hi5 k hk with h3 | h3
        · have := ta k h3; have := hT.own; omega
        · omega
      refine ⟨B, g', bs', a7, c7, hp, by simp [updB], hb, (hw3.kp k5 fun k hk => (ng k hk).1).kp k6 fun k hk => (ng k hk).2, hs5.kp k6 na7, fun k hk => ?_, fun k hk => ?_⟩
      · have hk3 := hw3.lt k hk
        rw [ext_old hk3]
        rcases hk with h2 | h2
        · subst h2; rw [ext_old hBlt]; exact tg _ (.inl rfl)
        · rcases hi3 k h2 with h3 | h3
          · rw [ext_old (hglt k h3)]; exact tg k (.inr h3)
          · exact ext_new h3
      · rcases hi5 k hk with h3 | h3
        · rw [old k (halt k h3)]; exact ta k h3
        · exact ext_new h3
    · have hne := tw_ne hij
      have hi := tw_le i
      have : updB s j (.slice a7 bs'.length c7) i = s i := by simp [updB, hij]
      rw [this]
      exact (hT.wr i).fr fro ⟨hne.1, hne.2.1, by omega⟩ ⟨hne.2.2, by omega, by omega⟩ hM
  · have hi := tr_le i
    exact (hT.rd i).fr fro ⟨by omega, by omega, by omega⟩ ⟨by omega, by omega, by omega⟩

set_option maxHeartbeats 1000000 in
theorem writes_c {w0 w : World} {ow : Nat → Nat} {tb M n : Nat} {o : OpL} {R : Ending → World → Prop} (hold : Old w0 w ow) (hT : TabI w ow tb M n) (ho : o.ok) (hM : M ≤ 10000) (hn : n + 2 ≤ 1000)
    (h : ∀ w' ow', Old w0 w' ow' → TabI w' ow' tb (M + 10) (n + 2) → R (.returned (.bool true)) w') : GoC Tryd.prog F_law02_Table_writes #[.pointer (some ⟨tb, 0, none⟩), .agg o.cs] w R := by
  refine S_law02_Table_writes ?_
  unfold W_law02_Table_writes
  refine AlF.intro fun b1 w1 hb1e hb1 k1 _ => ?_
  refine ⟨o.kind, o.wh, o.n, o.i, o.at_, o.size, o.ba, o.bl, o.bc, o.pa, o.pl, o.pc, ⟨hb1.cell 0, by rw [add_at]; exact hb1.cell 1, by rw [add_at]; exact hb1.cell 2, by rw [add_at]; exact hb1.cell 3, by rw [add_at]; exact hb1.cell 4, by rw [add_at]; exact hb1.cell 5, by rw [add_at]; exact hb1.cell 6, by rw [add_at]; exact hb1.cell 7, trivial⟩, ?_⟩
  refine which_c (o := o) fun w2 k2 => ⟨_, rfl, ?_⟩
  rw [ix_eq]
  have k12 := k1.trans0 k2
  have f12 : Fro (fun _ => True) w ow w2 (ext ow w.heap.size 99) := Fro.of_kp0 99 k12
  have hold2 := hold.fr f12 trivial
  obtain ⟨p, s, r, d, l, m, hT0⟩ := hT
  have hT2 := hT0.fr f12 (fun _ _ => trivial) (Nat.le_refl _) (Nat.le_refl _)
  have hob : ext ow w.heap.size 99 b1 = 99 := ext_new (by omega)
  have hb2 := k2.blk hb1 id
  have hb2lt := hb2.lt
  generalize ext ow w.heap.size 99 = ow2 at *
  clear hT0 hold f12 hb1 k1 k2 k12 hb1e
  generalize hj : o.wh = j
  have htj := tw_le j
  have hix := ix_lt j
  obtain ⟨B, g, bs, a, c, hp, hs, hbM, hw, hsl, tg, ta⟩ := hT2.wr j
  have hBlt : B < w2.heap.size := hw.lt B (.inl rfl)
  have hglt : ∀ k, Is g k → k < w2.heap.size := fun k hk => hw.lt k (.inr hk)
  have halt : ∀ k, Is a k → k < w2.heap.size := hsl.lt
  have nb1 : ∀ k, fpW B g k → k ≠ b1 := fun k hk hh => by have := tg k hk; subst hh; omega
  have ntb : ∀ k, fpW B g k → k ≠ tb := fun k hk hh => by have := tg k hk; subst hh; have := hT2.own; omega
  have nga : ∀ k, Is a k → ¬ fpW B g k := fun k h1 h2 => by have := tg k h2; have := ta k h1; omega
  refine ⟨o.kind, hb2.cell 0, ?_⟩
  -- what stands behind a call of the writer, and how it goes on
  have go : ∀ (x : Nat) (g' : Option Addr) (w3 : World), x < 18446744073709551616 → Wr w3 B g' (bs ++ vform x) → Kp (fpW B g) w2 w3 → (∀ k, Is g' k → Is g k ∨ w2.heap.size ≤ k) →
      Blk w3 tb (tabCs p s r d l m) T_quotalaw02_Table ∧ Blk w3 b1 o.cs T_quotalaw02_Op ∧ ∀ wz a6 c6, Kp no w3 wz → Sl wz T_uint8 1 a6 (vform x).length c6 (bvs (vform x)) →
        RunF Tryd.prog (Builtin.append_ #[T_s_uint8, T_s_uint8] T_s_uint8 #[.slice a bs.length c, .slice a6 (vform x).length c6]) wz fun r4 w5 => ∃ (a7 : Option Addr) (l7 c7 : Nat), r4 = (.slice a7 l7 c7) ∧
          BdF ((ix j : Nat) : Int) 2 (StF w5 (Addr.add (Addr.add ⟨tb, 0, none⟩ 2) (Int.toNat ((ix j : Nat) : Int))) (.slice a7 l7 c7) fun w6 => R (.returned (.bool true)) w6) := by
    intro x g' w3 hx hw3 k3 hi3
    have hb3 := k3.blk hT2.blk fun hh => ntb _ hh rfl
    refine ⟨hb3, k3.blk hb2 fun hh => nb1 _ hh rfl, fun wz a6 c6 kz hf => ?_⟩
    have h10 := vform_len64 hx
    have hp0 := vform_pos x
    have hslz := (hsl.kp k3 nga).kp0 kz
    refine append_own er_u8 hslz hf.rd (by rw [bvs_len]; omega) (fun hh => by subst hh; exact hf.zero.1) bvs_one (by omega) (by omega) fun a7 c7 w5 hs5 k5 hi5 _ _ => ⟨a7, _, c7, rfl, by omega, hix, ?_⟩
    have hl : bs.length + (vform x).length = (bs ++ vform x).length := by rw [List.length_append]
    rw [← bvs_app, hl] at hs5
    rw [hl]
    have hbz := (kz.blk hb3 id)
    have nat_ : ¬ Is a tb := fun hh => by have := ta _ hh; have := hT2.own; omega
    refine st_s (k5.blk hbz nat_) fun w6 hb6 k6 _ => ?_
    have k35 : Kp (Is a) w3 w5 := kz.of_no.trans0 k5
    obtain ⟨ow', ho', hT'⟩ := tab_wrote (M' := M + 10) (bs' := bs ++ vform x) hold2 hT2 tg ta hBlt hglt halt hp (by omega) (by omega) hw3 k3 hi3 hs5 k35 (fun k hk => (hi5 k hk).imp id fun hh => by have := kz.size; omega) hb6 k6
    obtain ⟨p', s', r', d', l', m', hT''⟩ := hT'
    have fid : Fro (fun _ => True) w6 ow' w6 ow' := ⟨(Kp.refl _ _).mono fun _ _ h => h, fun _ _ _ => rfl⟩
    exact h w6 ow' ho' ⟨p', s', r', d', l', m', hT''.fr fid (fun _ _ => trivial) (Nat.le_refl _) (by omega)⟩
  refine cond_eq (fun hk2 => ?_) (fun _ => cond_eq (fun hk3 => ?_) (fun _ => cond_eq (fun hk5 => ?_) (fun _ => cond_eq (fun hk4 => ?_) (fun _ => ?_))))
  · -- U
    refine ⟨by omega, hix, some ⟨B, 0, none⟩, by rw [← hp]; exact tab_p hT2.blk, (o.n : Int), by rw [add_at]; exact hb2.cell 2, ?_⟩
    refine writer_U (hw.kp0 (Kp.drew w2 1)) ho.1 (by omega) fun g' w3 hw3 k3 hi3 => ⟨rfl, ?_⟩
    obtain ⟨hb3, hob3, fin⟩ := go o.n g' w3 ho.1 hw3 ((Kp.drew w2 1).of_no.trans0 k3) hi3
    have kd : Kp no w3 w3.drew := Kp.drew w3 1
    have cs : ∀ wz, Kp no w3 wz → wz.cell? (Addr.add (Addr.add ⟨tb, 0, none⟩ 2) (Int.toNat ((ix j : Nat) : Int))) = some (.slice a bs.length c) := fun wz kz => by rw [← hs]; exact tab_s (kz.blk hb3 id)
    have cn : ∀ wz, Kp no w3 wz → wz.cell? (Addr.add ⟨b1, 0, none⟩ 2) = some (.int .u64 (o.n : Int)) := fun wz kz => by rw [add_at]; exact (kz.blk hob3 id).cell 2
    refine ⟨by omega, hix, ⟨a, _, c, cs _ kd, (o.n : Int), cn _ kd, ?_⟩, (o.n : Int), cn _ kd, ⟨a, _, c, cs _ kd, ?_⟩, ?_⟩
    · exact form_c ho.1 fun a6 c6 w4 hs4 k4 hf4 => ⟨a6, _, c6, rfl, fin w4 a6 c6 (kd.trans0 k4) hs4⟩
    · exact form_c ho.1 fun a6 c6 w4 hs4 k4 hf4 => ⟨a6, _, c6, rfl, fin w4 a6 c6 (kd.trans0 k4) hs4⟩
    · exact form_c ho.1 fun a6 c6 w4 hs4 k4 hf4 => ⟨a6, _, c6, rfl, a, _, c, cs _ (kd.trans0 k4), fin w4 a6 c6 (kd.trans0 k4) hs4⟩
  · -- S
    refine ⟨by omega, hix, some ⟨B, 0, none⟩, by rw [← hp]; exact tab_p hT2.blk, o.i, by rw [add_at]; exact hb2.cell 3, ?_⟩
    refine writer_S (hw.kp0 (Kp.drew w2 1)) ho.2.1 ho.2.2 (by omega) fun g' w3 hw3 k3 hi3 => ⟨rfl, ?_⟩
    have hz := zig_lt ho.2.1 ho.2.2
    obtain ⟨hb3, hob3, fin⟩ := go (zig o.i) g' w3 hz hw3 ((Kp.drew w2 1).of_no.trans0 k3) hi3
    have kd : Kp no w3 w3.drew := Kp.drew w3 1
    have cs : ∀ wz, Kp no w3 wz → wz.cell? (Addr.add (Addr.add ⟨tb, 0, none⟩ 2) (Int.toNat ((ix j : Nat) : Int))) = some (.slice a bs.length c) := fun wz kz => by rw [← hs]; exact tab_s (kz.blk hb3 id)
    have cn : ∀ wz, Kp no w3 wz → wz.cell? (Addr.add ⟨b1, 0, none⟩ 3) = some (.int .i64 o.i) := fun wz kz => by rw [add_at]; exact (kz.blk hob3 id).cell 3
    refine ⟨by omega, hix, ⟨a, _, c, cs _ kd, o.i, cn _ kd, ?_⟩, o.i, cn _ kd, ⟨a, _, c, cs _ kd, ?_⟩, ?_⟩
    · exact sign_c ho.2.1 ho.2.2 ⟨_, rfl, form_c hz fun a6 c6 w4 hs4 k4 hf4 => ⟨a6, _, c6, rfl, fin w4 a6 c6 (kd.trans0 k4) hs4⟩⟩
    · exact sign_c ho.2.1 ho.2.2 ⟨_, rfl, form_c hz fun a6 c6 w4 hs4 k4 hf4 => ⟨a6, _, c6, rfl, fin w4 a6 c6 (kd.trans0 k4) hs4⟩⟩
    · refine sign_c ho.2.1 ho.2.2 ⟨_, rfl, ⟨a, _, c, cs _ kd, ?_⟩, ?_⟩
      · exact form_c hz fun a6 c6 w4 hs4 k4 hf4 => ⟨a6, _, c6, rfl, fin w4 a6 c6 (kd.trans0 k4) hs4⟩
      · exact form_c hz fun a6 c6 w4 hs4 k4 hf4 => ⟨a6, _, c6, rfl, a, _, c, cs _ (kd.trans0 k4), fin w4 a6 c6 (kd.trans0 k4) hs4⟩
  · -- a new writer
    refine ⟨fun _ => True, trivial, ?_⟩
    have kd : Kp no w2 w2.drew := Kp.drew w2 1
    refine newWriter_c fun B' w3 hw3 k3 hB' => ⟨_, rfl, trivial, by omega, hix, ?_⟩
    have k23 := kd.trans0 k3
    have hb3 := k23.blk hT2.blk id
    refine st_p hb3 fun w4 hb4 k4 s4 => ⟨trivial, by omega, hix, ?_⟩
    refine st_s hb4 fun w5 hb5 k5 s5 => ⟨by omega, hix, some ⟨B', 0, none⟩, ?_, ?_⟩
    · rw [tab_p hb5]; simp [updB]
    have s23 := k23.size
    have hBn : w2.heap.size ≤ B' := hB'
    have fro : Fro (fun t => t ≠ 1) w2 ow2 w5 (ext ow2 w2.heap.size (tw j)) := by
      refine ⟨((k23.trans k4 (S'' := fun k => ¬ (ow2 k ≠ 1)) (fun _ _ h => h.elim) ?_).trans k5 (fun _ _ h => h) ?_), fun k hk _ => ext_old hk⟩
      · exact fun k _ hk ht => ht (by subst hk; exact hT2.own)
      · exact fun k _ hk ht => ht (by subst hk; exact hT2.own)
    have htblt := hT2.blk.lt
    have nB : ∀ k, fpW B' none k → k ≠ tb := by
      rintro k (rfl | hk) hh
      · omega
      · exact not_is_none hk
    refine h w5 _ (hold2.fr fro (by omega)) ⟨updB p j (.pointer (some ⟨B', 0, none⟩)), updB s j (.slice none 0 0), r, d, l, m, hb5, by rw [ext_old hT2.blk.lt, hT2.own], fun i => ?_, fun i => ?_, hT2.bk.fr fro (by omega) (by omega) (by omega) (by omega)⟩
    · by_cases hij : i = j
      · subst hij
        refine ⟨B', none, [], none, 0, by simp [updB], by simp [updB], by simp, (hw3.kp k4 nB).kp k5 nB, Sl.nil _ _ _, ?_, fun k hk => (not_is_none hk).elim⟩
        rintro k (rfl | hk)
        · exact ext_new hBn
        · exact (not_is_none hk).elim
      · have hi := tw_le i
        have e1 : updB p j (.pointer (some ⟨B', 0, none⟩)) i = p i := by simp [updB, hij]
        have e2 : updB s j (.slice none 0 0) i = s i := by simp [updB, hij]
        rw [e1, e2]
        exact (hT2.wr i).fr fro (by omega) (by omega) (by omega)
    · have hi := tr_le i
      exact (hT2.rd i).fr fro (by omega) (by omega)
  · -- Out
    refine ⟨by omega, hix, some ⟨B, 0, none⟩, by rw [← hp]; exact tab_p hT2.blk, ?_⟩
    refine writer_Out hw (by omega) fun a3 c3 w3 hs3 k3 hf3 => ⟨a3, _, c3, rfl, by omega, hix, ?_⟩
    have hb3 := k3.blk hT2.blk id
    refine ⟨some ⟨B, 0, none⟩, by rw [← hp]; exact tab_p hb3, ?_⟩
    refine writer_Out (hw.kp0 k3) (by omega) fun a4 c4 w4 hs4 k4 hf4 => ⟨a4, _, c4, rfl, by omega, hix, ?_⟩
    have hb4 := k4.blk hb3 id
    have k24 := k3.trans0 k4
    have s23 := k3.size
    have s34 := k4.size
    have hsl4 := hsl.kp0 k24
    have hs34 := hs3.kp0 k4
    refine ⟨a, _, c, by rw [← hs]; exact tab_s hb4, ?_⟩
    have e : (bs == bs) = true := by simp
    refine same_c hs34.rd rfl (fun hh => by subst hh; exact hs34.zero.1) hsl4.rd rfl (fun hh => by subst hh; exact hsl4.zero.1) ⟨_, rfl, ?_⟩
    rw [e]
    refine ⟨by omega, hix, a, _, c, by rw [← hs]; exact tab_s hb4, ?_⟩
    refine same_c hs4.rd rfl (fun hh => by subst hh; exact hs4.zero.1) hsl4.rd rfl (fun hh => by subst hh; exact hsl4.zero.1) ⟨_, rfl, ?_⟩
    rw [e]
    -- the owners of what was handed out
    have f4 : Fro (fun _ => True) w2 ow2 w4 (ext (ext ow2 w2.heap.size 13) w3.heap.size 14) := ⟨k24.of_no, fun k hk _ => by rw [ext_old (by omega), ext_old hk]⟩
    have hT4 := hT2.fr f4 (fun _ _ => trivial) (Nat.le_refl _) (Nat.le_refl _)
    have hold4 := hold2.fr f4 trivial
    have t3 : Tg (ext (ext ow2 w2.heap.size 13) w3.heap.size 14) 13 (Is a3) := fun k hk => by rw [ext_old (hs3.lt k hk), ext_new (hf3 k hk)]
    have t4 : Tg (ext (ext ow2 w2.heap.size 13) w3.heap.size 14) 14 (Is a4) := fun k hk => ext_new (hf4 k hk)
    generalize ext (ext ow2 w2.heap.size 13) w3.heap.size 14 = ow4 at *
    refine keep_c hT4.blk rfl rfl rfl hT4.bk (by omega) hT4.own hs34 (by omega) t3 (by omega) fun w5 ow5 l' m' hb5 bk5 f5 o5 => ⟨rfl, ?_⟩
    have hs5 := hs4.kp f5.kp fun k hk hn => hn (by have := t4 k hk; rw [this]; exact ⟨by omega, by omega, by omega, by omega⟩)
    have t5 := t4.fr f5 ⟨by omega, by omega, by omega, by omega⟩ hs4.lt
    refine keep_c (cs := tabCs p s r d l' m') hb5 rfl rfl rfl bk5 (by omega) o5 hs5 (by omega) t5 (by omega) fun w6 ow6 l'' m'' hb6 bk6 f6 o6 => ⟨rfl, ?_⟩
    have fro : Fro (fun t => t ≠ 1 ∧ t ≠ 10 ∧ t ≠ 11 ∧ t ≠ 13 ∧ t ≠ 14) w4 ow4 w6 ow6 := (f5.mono fun t ht => ⟨ht.1, ht.2.1, ht.2.2.1, ht.2.2.2.1⟩).trans (f6.mono fun t ht => ⟨ht.1, ht.2.1, ht.2.2.1, ht.2.2.2.2⟩)
    refine h w6 ow6 (hold4.fr fro ⟨by omega, by omega, by omega, by omega, by omega⟩) ⟨p, s, r, d, l'', m'', hb6, o6, fun i => ?_, fun i => ?_, bk6⟩
    · have hi := tw_le i
      exact (hT4.wr i).fr fro ⟨by omega, by omega, by omega, by omega, by omega⟩ ⟨by omega, by omega, by omega, by omega, by omega⟩ (by omega)
    · have hi := tr_le i
      exact (hT4.rd i).fr fro ⟨by omega, by omega, by omega, by omega, by omega⟩ ⟨by omega, by omega, by omega, by omega, by omega⟩
  · have fid : Fro (fun _ => True) w2 ow2 w2 ow2 := ⟨(Kp.refl _ _).mono fun _ _ h => h, fun _ _ _ => rfl⟩
    exact h w2 ow2 hold2 ⟨p, s, r, d, l, m, hT2.fr fid (fun _ _ => trivial) (by omega) (by omega)⟩
end Go.Proofs.YtplfoedgekdjgaaDoor
