/- The plain form of a record's bytes; the writer in a function's walk. Conditions: none. -/
import Derived.Test.YtjhncijdkmbopaaQb
import Derived.Test.YtjhncijdkmbopaaQa
set_option linter.unusedVariables false
set_option linter.unusedSimpArgs false
namespace Go.Proofs.Ytjhncijdkmbopaa
open Go Go.RowKit

/-- A record's number by its place; the record with another one there. -/
def RV.gi (r : RV) : Nat → Int
  | 0 => r.lsn | 1 => r.kind | 2 => r.tx | 3 => r.prev | 4 => r.wp | 5 => r.wi | 6 => r.sp | 7 => r.si | 8 => r.delta | 9 => r.id | 10 => r.grp | 11 => r.lo | 12 => r.hi | 13 => r.val | 16 => r.next | _ => 0
def RV.put (r : RV) (v : Int) : Nat → RV
  | 0 => { r with lsn := v } | 1 => { r with kind := v } | 2 => { r with tx := v } | 3 => { r with prev := v } | 4 => { r with wp := v } | 5 => { r with wi := v } | 6 => { r with sp := v } | 7 => { r with si := v }
  | 8 => { r with delta := v } | 9 => { r with id := v } | 10 => { r with grp := v } | 11 => { r with lo := v } | 12 => { r with hi := v } | 13 => { r with val := v } | 16 => { r with next := v } | _ => r
/-- The places of numbers. -/
def plc : List Nat := [2, 3, 4, 5, 6, 7, 8, 9, 10, 11, 12, 13, 16]
theorem iof_plc (k : Int) : ∀ o ∈ iof k, o ∈ plc := by
  intro o ho
  unfold iof at ho
  split at ho
  · revert o; decide
  · split at ho
    · revert o; decide
    · split at ho
      · revert o; decide
      · split at ho <;> (revert o; decide)
theorem sof_plc (k : Int) : ∀ o ∈ sof k, o ∈ plc := by
  intro o ho
  unfold sof at ho
  split at ho
  · revert o; decide
  · split at ho <;> (revert o; decide)
theorem gi_cell (r : RV) (m : Mm) {o : Nat} (ho : o ∈ plc) : (r.ca m)[o]? = some (.int .i64 (r.gi o)) := by
  simp only [plc, List.mem_cons, List.mem_nil_iff, or_false] at ho
  rcases ho with rfl | rfl | rfl | rfl | rfl | rfl | rfl | rfl | rfl | rfl | rfl | rfl | rfl <;> rfl
theorem put_cell (r : RV) (m : Mm) (v : Int) {o : Nat} (ho : o ∈ plc) : (r.ca m).setIfInBounds o (.int .i64 v) = (r.put v o).ca m := by
  simp only [plc, List.mem_cons, List.mem_nil_iff, or_false] at ho
  rcases ho with rfl | rfl | rfl | rfl | rfl | rfl | rfl | rfl | rfl | rfl | rfl | rfl | rfl <;> rfl
theorem plc_lt {o : Nat} (ho : o ∈ plc) : o < 17 := by revert o; decide
theorem iof_len (k : Int) : (iof k).length ≤ 7 := by
  unfold iof
  repeat' (split <;> try decide)
theorem sof_len (k : Int) : (sof k).length ≤ 3 := by
  unfold sof
  repeat' (split <;> try decide)

def lvB (x : LV) : List UInt8 := vform x.tx.toNat ++ (vform x.last.toNat ++ vform (stN x))
def dvB (x : DV) : List UInt8 := vform x.page.toNat ++ vform x.since.toNat
def intB (r : RV) (o : Nat) : List UInt8 := vform (r.gi o).toNat
def sgnB (r : RV) (o : Nat) : List UInt8 := vform (zig (r.gi o))
def tailB (r : RV) : List UInt8 := if r.kind = 8 then vform r.live.length ++ (r.live.flatMap lvB ++ (vform r.dirty.length ++ r.dirty.flatMap dvB)) else []
/-- A record's bytes. -/
def encB (r : RV) : List UInt8 := vform r.kind.toNat ++ ((iof r.kind).flatMap (intB r) ++ ((sof r.kind).flatMap (sgnB r) ++ tailB r))
/-- Numbers with a sign are such as an int64 holds. -/
def RV.w64 (r : RV) : Prop := i64 r.delta ∧ i64 r.lo ∧ i64 r.hi ∧ i64 r.val

theorem inB_iff {n lo hi : Int} : inB n lo hi = true ↔ lo ≤ n ∧ n ≤ hi := by unfold inB; simp
theorem li_ok {next lsn : Int} (hn : next ≤ 2147483648) : ∀ {last : Int} {L : List LV}, liB next lsn last L = true → 0 ≤ last → ∀ x ∈ L, 0 ≤ x.tx ∧ x.tx < 2147483648 ∧ 0 ≤ x.last ∧ x.last < 2147483648 := by
  intro last L
  induction L generalizing last with
  | nil => intro _ _ x hx; cases hx
  | cons y r ih =>
    intro h h0 x hx
    simp only [liB, Bool.and_eq_true, decide_eq_true_eq, inB_iff] at h
    obtain ⟨⟨⟨⟨⟨h1, h2⟩, h3⟩, h4⟩, h5⟩, h6⟩ := h
    rcases List.mem_cons.1 hx with rfl | hx
    · omega
    · exact ih h6 (by omega) x hx
theorem di_ok {lsn : Int} : ∀ {page : Int} {D : List DV}, diB lsn page D = true → -1 ≤ page → ∀ x ∈ D, 0 ≤ x.page ∧ x.page < 64 ∧ 0 ≤ x.since ∧ x.since < 2147483648 := by
  intro page D
  induction D generalizing page with
  | nil => intro _ _ x hx; cases hx
  | cons y r ih =>
    intro h h0 x hx
    simp only [diB, Bool.and_eq_true, decide_eq_true_eq, inB_iff] at h
    obtain ⟨⟨⟨⟨h1, h2⟩, h3⟩, h4⟩, h6⟩ := h
    rcases List.mem_cons.1 hx with rfl | hx
    · omega
    · exact ih h6 (by omega) x hx

theorem chk_kind {r : RV} (h : chkN r = 0) : 1 ≤ r.kind ∧ r.kind ≤ 8 ∧ okB r = true := by
  unfold chkN at h
  split at h
  · cases h
  · rename_i hk
    split at h
    · rename_i ho
      exact ⟨by omega, by omega, ho⟩
    · cases h
/-- A right record's numbers. -/
theorem ok_ints {r : RV} (h : chkN r = 0) : ∀ o ∈ iof r.kind, 0 ≤ r.gi o ∧ r.gi o ≤ 2147483648 ∧ (r.kind ≠ 8 → r.gi o < 2147483648) := by
  obtain ⟨h1, h8, hk⟩ := chk_kind h
  unfold okB at hk
  simp only [Bool.and_eq_true] at hk
  obtain ⟨_, hk⟩ := hk
  intro o ho
  unfold iof at ho
  split at ho
  · rename_i e2
    rw [if_pos e2] at hk
    simp only [Bool.and_eq_true, slB, inB_iff, decide_eq_true_eq] at hk
    simp only [List.mem_cons, List.mem_nil_iff, or_false] at ho
    rcases ho with rfl | rfl | rfl | rfl | rfl | rfl <;> simp only [RV.gi] <;> omega
  · rename_i n2
    rw [if_neg n2] at hk
    split at ho
    · rename_i e8
      rw [if_pos e8] at hk
      simp only [Bool.and_eq_true, cpB, inB_iff, decide_eq_true_eq] at hk
      simp only [List.mem_cons, List.mem_nil_iff, or_false] at ho
      subst ho
      simp only [RV.gi]
      omega
    · rename_i n8
      rw [if_neg n8] at hk
      split at ho
      · rename_i e34
        rw [if_pos e34] at hk
        simp only [Bool.and_eq_true, slB, inB_iff, decide_eq_true_eq] at hk
        simp only [List.mem_cons, List.mem_nil_iff, or_false] at ho
        rcases ho with rfl | rfl | rfl | rfl | rfl | rfl | rfl <;> simp only [RV.gi] <;> omega
      · rename_i n34
        rw [if_neg n34] at hk
        split at ho
        · rename_i e567
          rw [if_pos e567] at hk
          simp only [Bool.and_eq_true, inB_iff, decide_eq_true_eq] at hk
          simp only [List.mem_cons, List.mem_nil_iff, or_false] at ho
          rcases ho with rfl | rfl <;> simp only [RV.gi] <;> omega
        · rename_i n567
          rw [if_neg n567] at hk
          simp only [Bool.and_eq_true, inB_iff, decide_eq_true_eq] at hk
          simp only [List.mem_cons, List.mem_nil_iff, or_false] at ho
          subst ho
          simp only [RV.gi]
          omega
theorem ok_lists {r : RV} (h : chkN r = 0) (h8 : r.kind = 8) : r.live.length ≤ 32 ∧ r.dirty.length ≤ 16 ∧ (∀ x ∈ r.live, 0 ≤ x.tx ∧ x.tx < 2147483648 ∧ 0 ≤ x.last ∧ x.last < 2147483648) ∧ (∀ x ∈ r.dirty, 0 ≤ x.page ∧ x.page < 64 ∧ 0 ≤ x.since ∧ x.since < 2147483648) := by
  obtain ⟨_, _, hk⟩ := chk_kind h
  unfold okB at hk
  rw [if_neg (by omega), if_pos h8] at hk
  simp only [Bool.and_eq_true, cpB, inB_iff, decide_eq_true_eq] at hk
  obtain ⟨_, ⟨⟨⟨⟨hn, hl⟩, hd⟩, hL⟩, hD⟩, _⟩ := hk
  exact ⟨hl, hd, li_ok hn.2 hL (by omega), di_ok hD (by omega)⟩
theorem sgn_64 {r : RV} (h : r.w64) : ∀ o ∈ sof r.kind, i64 (r.gi o) := by
  intro o ho
  obtain ⟨h1, h2, h3, h4⟩ := h
  unfold sof at ho
  split at ho
  · simp only [List.mem_cons, List.mem_nil_iff, or_false] at ho
    rcases ho with rfl | rfl | rfl <;> assumption
  · split at ho
    · simp only [List.mem_cons, List.mem_nil_iff, or_false] at ho
      subst ho
      assumption
    · cases ho

/-- A writer from world w0 on. -/
structure WrS (w0 : World) (B : Nat) (g0 : Option Addr) (w : World) (g : Option Addr) (bs : List UInt8) : Prop where
  wr : Wr w B g bs
  kp : Kp (fpW B g0) w0 w
  nw : ∀ k, Is g k → Is g0 k ∨ w0.heap.size ≤ k
theorem WrS.init {w : World} {B : Nat} {g : Option Addr} {bs : List UInt8} (h : Wr w B g bs) : WrS w B g w g bs := ⟨h, Kp.refl _ _, fun k hk => .inl hk⟩
theorem WrS.step {w0 w w' : World} {B : Nat} {g0 g g' : Option Addr} {bs bs' : List UInt8} (h : WrS w0 B g0 w g bs) (hw : Wr w' B g' bs') (k : Kp (fpW B g) w w') (hn : ∀ k, Is g' k → Is g k ∨ w.heap.size ≤ k) : WrS w0 B g0 w' g' bs' := by
  have s0 := h.kp.size
  refine ⟨hw, h.kp.trans k (fun j hj hh => hh) fun j hj hh => ?_, fun j hj => ?_⟩
  · rcases hh with hh | hh
    · exact .inl hh
    · rcases h.nw j hh with h2 | h2
      · exact .inr h2
      · omega
  · rcases hn j hj with hh | hh
    · exact h.nw j hh
    · exact .inr (by omega)
theorem WrS.kp0 {w0 w w' : World} {B : Nat} {g0 g : Option Addr} {bs : List UInt8} (h : WrS w0 B g0 w g bs) (k : Kp no w w') : WrS w0 B g0 w' g bs := h.step (h.wr.kp0 k) k.of_no fun j hj => .inl hj
theorem WrS.U {w0 w : World} {B : Nat} {g0 g : Option Addr} {bs : List UInt8} {n : Nat} {v : Int} {R : Ending → World → Prop} (h : WrS w0 B g0 w g bs) (hv : v = (n : Int)) (hn : n < 18446744073709551616) (hb : bs.length ≤ 100000)
    (hk : ∀ g' w', WrS w0 B g0 w' g' (bs ++ vform n) → R (.returned (.tuple #[])) w') : GoC Try.prog F_field_Writer_U #[.pointer (some ⟨B, 0, none⟩), .int .u64 v] w R := by
  subst hv
  exact writer_U h.wr hn (by omega) fun g' w' hw kk hi => hk g' w' (h.step hw kk hi)
theorem WrS.S {w0 w : World} {B : Nat} {g0 g : Option Addr} {bs : List UInt8} {i : Int} {R : Ending → World → Prop} (h : WrS w0 B g0 w g bs) (hi : i64 i) (hb : bs.length ≤ 100000)
    (hk : ∀ g' w', WrS w0 B g0 w' g' (bs ++ vform (zig i)) → R (.returned (.tuple #[])) w') : GoC Try.prog F_field_Writer_S #[.pointer (some ⟨B, 0, none⟩), .int .i64 i] w R :=
  writer_S h.wr hi.1 hi.2 (by omega) fun g' w' hw kk hi => hk g' w' (h.step hw kk hi)
/-- What was there ahead of the writer stays. -/
theorem WrS.old {w1 w0 w : World} {B : Nat} {g0 g : Option Addr} {bs : List UInt8} (h : WrS w0 B g0 w g bs) (k : Kp no w1 w0) (hB : w1.heap.size ≤ B) (hg : Fresh w1 g0) : Kp no w1 w :=
  k.trans h.kp (fun _ _ h => h) fun j hj hh => by
    rcases hh with hh | hh
    · omega
    · have := hg j hh; omega

theorem flat_len {α : Type} {f : α → List UInt8} {n : Nat} : ∀ {L : List α}, (∀ x ∈ L, (f x).length ≤ n) → (L.flatMap f).length ≤ L.length * n
  | [], _ => by simp
  | x :: r, h => by
    have h1 := h x (List.mem_cons_self ..)
    have h2 := flat_len (L := r) fun y hy => h y (List.mem_cons_of_mem _ hy)
    rw [List.flatMap_cons, List.length_append, List.length_cons, Nat.add_mul, Nat.one_mul]
    omega
theorem flat_snoc {α : Type} {f : α → List UInt8} {L : List α} {k : Nat} (h : k < L.length) : (L.take (k + 1)).flatMap f = (L.take k).flatMap f ++ f L[k] := by
  rw [take_snoc_get L k h, List.flatMap_append, List.flatMap_cons, List.flatMap_nil, List.append_nil]
theorem vlen31 {n : Nat} (h : n ≤ 2147483648) : (vform n).length ≤ 10 := vform_len64 (by omega)
theorem Rd.kpw {S : Nat → Prop} {w w' : World} {a : Option Addr} {xs : List Value} (h : Rd w a xs) (k : Kp S w w') (hn : ∀ b, b < w.heap.size → Is a b → ¬ S b) : Rd w' a xs := fun i v hv => by
  obtain ⟨b, o, ha, hc⟩ := h i v hv
  exact ⟨b, o, ha, k.cell hc (hn b (cell_lt hc) ⟨_, ha, rfl⟩)⟩
end Go.Proofs.Ytjhncijdkmbopaa
