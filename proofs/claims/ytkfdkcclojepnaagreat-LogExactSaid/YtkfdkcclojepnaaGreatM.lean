/- Memory, block by block: what stays, what is owned, and the rules of the formulas' forms (a new block, a store, an append, a loop). Conditions: none. -/
import Derived.Test.YtkfdkcclojepnaaGreatVi
import Derived.OwnWalk
import Derived.Laws.IdiomCopy
import Derived.Laws.BytesString
import Derived.Lib.ConvBytes
import Derived.Lib.Strings
namespace Go.Proofs.YtkfdkcclojepnaaGreat
open Go Go.RowKit
/-! ### What stays -/
structure Kp (S : Nat → Prop) (w w' : World) : Prop where
  os : w'.os = w.os
  tape : w'.tape = w.tape
  output : w'.output = w.output
  size : w.heap.size ≤ w'.heap.size
  block : ∀ k, k < w.heap.size → ¬ S k → w'.heap[k]? = w.heap[k]?
def no : Nat → Prop := fun _ => False
def Is (a : Option Addr) : Nat → Prop := fun k => ∃ ad, a = some ad ∧ ad.block = k
def Fresh (w : World) (a : Option Addr) : Prop := ∀ k, Is a k → w.heap.size ≤ k
theorem Kp.refl (S : Nat → Prop) (w : World) : Kp S w w := ⟨rfl, rfl, rfl, Nat.le_refl _, fun _ _ _ => rfl⟩
theorem Kp.mono {S S' : Nat → Prop} {w w' : World} (h : Kp S w w') (hs : ∀ k, k < w.heap.size → S k → S' k) : Kp S' w w' :=
  ⟨h.os, h.tape, h.output, h.size, fun k hk hn => h.block k hk fun hS => hn (hs k hk hS)⟩
theorem Kp.trans {S S' S'' : Nat → Prop} {w w1 w2 : World} (h : Kp S w w1) (h' : Kp S' w1 w2) (h1 : ∀ k, k < w.heap.size → S k → S'' k) (h2 : ∀ k, k < w.heap.size → S' k → S'' k) : Kp S'' w w2 :=
  ⟨h'.os.trans h.os, h'.tape.trans h.tape, h'.output.trans h.output, Nat.le_trans h.size h'.size,
    fun k hk hn => (h'.block k (Nat.lt_of_lt_of_le hk h.size) fun hS => hn (h2 k hk hS)).trans (h.block k hk fun hS => hn (h1 k hk hS))⟩
theorem Kp.trans0 {S : Nat → Prop} {w w1 w2 : World} (h : Kp S w w1) (h' : Kp S w1 w2) : Kp S w w2 := h.trans h' (fun _ _ h => h) (fun _ _ h => h)
theorem Kp.drew (w : World) (n : Nat) : Kp no w (w.drewN n) := ⟨rfl, rfl, rfl, Nat.le_refl _, fun _ _ _ => rfl⟩
theorem Kp.alloc (w : World) (o : Obj) : Kp no w (w.alloc o) := ⟨rfl, rfl, rfl, by simp, fun k hk _ => Below.heap_alloc _ _ _ hk⟩
theorem Kp.below {w w' : World} {B : Nat} {S : Nat → Prop} (h : Kp S w w') (hB : B ≤ w.heap.size) (hS : ∀ k, k < B → ¬ S k) : Below B w w' :=
  ⟨h.os, h.tape, h.output, h.size, fun k hk => h.block k (by omega) (hS k hk)⟩
theorem Kp.of_no {S : Nat → Prop} {w w' : World} (h : Kp no w w') : Kp S w w' := h.mono fun _ _ h => h.elim
def Blk (w : World) (b : Nat) (cs : Array Value) (T : TypeId) : Prop := w.heap[b]? = some (.cells cs T (0, 0))
theorem Blk.lt {w : World} {b : Nat} {cs : Array Value} {T : TypeId} (h : Blk w b cs T) : b < w.heap.size := (Array.getElem?_eq_some_iff.1 h).1
theorem Kp.blk {S : Nat → Prop} {w w' : World} (h : Kp S w w') {b : Nat} {cs : Array Value} {T : TypeId} (hb : Blk w b cs T) (hn : ¬ S b) : Blk w' b cs T := (h.block b hb.lt hn).trans hb
theorem Blk.cell {w : World} {b : Nat} {cs : Array Value} {T : TypeId} (h : Blk w b cs T) (o : Nat) : w.cell? ⟨b, o, none⟩ = cs[o]? := by
  unfold Blk at h
  simp [World.cell?, h]
theorem Blk.frozen {w : World} {b : Nat} {cs : Array Value} {T : TypeId} (h : Blk w b cs T) (o : Nat) : w.frozen? ⟨b, o, none⟩ = false := by
  unfold Blk at h
  simp [World.frozen?, h]
theorem cell_lt {w : World} {a : Addr} {v : Value} (h : w.cell? a = some v) : a.block < w.heap.size := World.block_lt_of_cell? w a h
theorem Kp.cell {S : Nat → Prop} {w w' : World} (h : Kp S w w') {a : Addr} {v : Value} (hc : w.cell? a = some v) (hn : ¬ S a.block) : w'.cell? a = some v :=
  (World.cell?_of_block (h.block a.block (cell_lt hc) hn)).trans hc
theorem add_at (b o n : Nat) : Addr.add ⟨b, o, none⟩ n = ⟨b, o + n, none⟩ := by
  unfold Addr.add
  split
  · rename_i h; subst h; rfl
  · rfl
theorem subA_zero (a : Option Addr) (c s : Nat) : subA a c 0 s = a := by
  unfold subA
  split
  · rfl
  · cases a <;> simp [Addr.add]
/-! ### The rules of the forms -/
theorem AlF.intro {w : World} {c : Array Value} {T : TypeId} {K : Nat → World → Prop} (h : ∀ b w', b = w.heap.size → Blk w' b c T → Kp no w w' → w'.heap.size = w.heap.size + 1 → K b w') : AlF w (.cells c T) K :=
  h _ _ rfl (heap_alloc_new w _) (Kp.alloc w _) (by simp)
theorem setCell_blk {w : World} {b o : Nat} {cs : Array Value} {T : TypeId} (hb : Blk w b cs T) (v : Value) : Blk (w.setCell ⟨b, o, none⟩ v) b (cs.setIfInBounds o v) T := by
  unfold Blk at *
  simp only [World.setCell, Array.getElem?_modify, if_true, hb, Option.map_some]
  rfl
theorem Kp.setCell {w : World} {a : Addr} {v : Value} : Kp (fun k => k = a.block) w (w.setCell a v) :=
  ⟨rfl, rfl, rfl, by simp, fun k _ hn => Below.heap_setCell _ _ _ _ hn⟩
theorem StF.intro {w : World} {b o : Nat} {cs : Array Value} {T : TypeId} {v : Value} {K : World → Prop} (hb : Blk w b cs T) (ho : o < cs.size)
    (h : ∀ w', Blk w' b (cs.setIfInBounds o v) T → Kp (fun k => k = b) w w' → w'.heap.size = w.heap.size → K w') : StF w ⟨b, o, none⟩ v K :=
  ⟨cs[o], by rw [hb.cell]; exact Array.getElem?_eq_getElem ho, hb.frozen o, h _ (setCell_blk hb v) (Kp.setCell (a := ⟨b, o, none⟩)) (by simp)⟩
theorem NilF.intro {p : Option Addr} {ad : Addr} {K : Addr → Prop} (hp : p = some ad) (h : K ad) : NilF p K := by subst hp; exact h
theorem cond_b {t : Bool} {A B : Prop} (ha : t = true → A) (hb : t = false → B) : cond t A B := by
  cases t
  · exact hb rfl
  · exact ha rfl
theorem cond_d {p : Prop} [Decidable p] {A B : Prop} (ha : p → A) (hb : ¬ p → B) : cond (decide p) A B :=
  cond_b (fun h => ha (of_decide_eq_true h)) (fun h => hb (of_decide_eq_false h))
theorem cond_eq {x y : Int} {A B : Prop} (ha : x = y → A) (hb : x ≠ y → B) : cond (x == y) A B :=
  cond_b (fun h => ha (by simpa using h)) (fun h => hb (by simpa using h))
theorem cond_ne {x y : Int} {A B : Prop} (ha : x ≠ y → A) (hb : x = y → B) : cond (x != y) A B :=
  cond_b (fun h => ha (by simpa using h)) (fun h => hb (by simpa using h))
theorem cond_not {t : Bool} {A B : Prop} (h : cond t B A) : cond (!t) A B := by cases t <;> exact h
theorem cond_t {t : Bool} {A B : Prop} (ht : t = true) (h : A) : cond t A B := by subst ht; exact h
theorem cond_f {t : Bool} {A B : Prop} (ht : t = false) (h : B) : cond t A B := by subst ht; exact h
theorem loopN {S : Type} {s0 : S} {w0 : World} {B : S → World → (S → World → Prop) → Prop} (I : S → World → Prop) (μ : S → World → Nat) (h0 : I s0 w0)
    (hr : ∀ s w, I s w → B s w fun s' w' => I s' w' ∧ μ s' w' < μ s w) : LoopF s0 w0 B := ⟨I, μ, h0, hr⟩
theorem CallF.intro {P : Program} {f : FuncId} {args : Array Value} {w : World} {K : Value → World → Prop} {C : List PanicEntry → World → Prop}
    (h : GoC P f args w fun e w' => match e with | .returned v => K v w' | .panicked ch => C ch w' | .outgrown => False) : CallF P f args w K C := h
/-! ### Numbers -/
theorem wrap_i64 {x : Int} (h0 : -9223372036854775808 ≤ x) (h1 : x ≤ 9223372036854775807) : IntKind.wrap .i64 x = x := by
  simp only [IntKind.wrap, IntKind.bits, IntKind.signed]
  simp only [Bool.true_and]
  split
  · rename_i h; have := of_decide_eq_true h; omega
  · rename_i h; have := of_decide_eq_false (Bool.eq_false_iff.2 h); omega
theorem wrap_u8 {x : Int} (h0 : 0 ≤ x) (h1 : x < 256) : IntKind.wrap .u8 x = x := by
  simp only [IntKind.wrap, IntKind.bits, IntKind.signed, Bool.false_and, Bool.false_eq_true, if_false]; omega
theorem wrap_u64 {x : Int} (h0 : 0 ≤ x) (h1 : x < 18446744073709551616) : IntKind.wrap .u64 x = x := by
  simp only [IntKind.wrap, IntKind.bits, IntKind.signed, Bool.false_and, Bool.false_eq_true, if_false]; omega
/-! ### Reading a slice -/
def Rd (w : World) (a : Option Addr) (xs : List Value) : Prop := ∀ i v, xs[i]? = some v → ∃ b o, a = some ⟨b, o, none⟩ ∧ w.cell? ⟨b, o + i, none⟩ = some v
theorem Rd.nil (w : World) (a : Option Addr) : Rd w a [] := fun i v h => by simp at h
theorem Rd.kp {S : Nat → Prop} {w w' : World} {a : Option Addr} {xs : List Value} (h : Rd w a xs) (k : Kp S w w') (hn : ∀ b, Is a b → ¬ S b) : Rd w' a xs := fun i v hv => by
  obtain ⟨b, o, ha, hc⟩ := h i v hv
  exact ⟨b, o, ha, k.cell hc (hn b ⟨_, ha, rfl⟩)⟩
theorem Rd.kp0 {w w' : World} {a : Option Addr} {xs : List Value} (h : Rd w a xs) (k : Kp no w w') : Rd w' a xs := h.kp k fun _ _ h => h.elim
theorem Rd.addr {w : World} {a : Option Addr} {xs : List Value} (h : Rd w a xs) (hx : xs ≠ []) : ∃ b o, a = some ⟨b, o, none⟩ ∧ b < w.heap.size ∧ ∀ i v, xs[i]? = some v → w.cell? ⟨b, o + i, none⟩ = some v := by
  cases xs with
  | nil => exact (hx rfl).elim
  | cons x r =>
    obtain ⟨b, o, ha, hc⟩ := h 0 x rfl
    refine ⟨b, o, ha, cell_lt hc, fun i v hv => ?_⟩
    obtain ⟨b', o', ha', hc'⟩ := h i v hv
    rw [ha] at ha'
    cases ha'
    exact hc'
theorem Rd.of_blk {w : World} {b : Nat} {cs : Array Value} {T : TypeId} (h : Blk w b cs T) {o : Nat} {xs : List Value} (hx : ∀ i v, xs[i]? = some v → cs[o + i]? = some v) : Rd w (some ⟨b, o, none⟩) xs :=
  fun i v hv => ⟨b, o, rfl, by rw [h.cell]; exact hx i v hv⟩
theorem Rd.take {w : World} {a : Option Addr} {xs : List Value} (h : Rd w a xs) (n : Nat) : Rd w a (xs.take n) := fun i v hv => h i v (by
  rw [List.getElem?_take] at hv
  split at hv
  · exact hv
  · cases hv)
theorem Rd.idx {w : World} {a : Option Addr} {xs : List Value} (h : Rd w a xs) {n : Int} {l : Nat} (h0 : 0 ≤ n) (h1 : n < l) (hl : l ≤ xs.length) {K : Addr → Prop}
    (hk : ∀ b o, a = some ⟨b, o, none⟩ → (∀ i v, xs[i]? = some v → w.cell? ⟨b, o + i, none⟩ = some v) → K ⟨b, o, none⟩) : IdxF a n l K := by
  have hx : xs ≠ [] := by intro hx; subst hx; simp at hl; omega
  obtain ⟨b, o, ha, _, hc⟩ := h.addr hx
  exact ⟨h0, h1, _, ha, hk b o ha hc⟩
/-! ### An owned slice -/
def Sl (w : World) (e : TypeId) (s : Nat) (a : Option Addr) (l c : Nat) (xs : List Value) : Prop :=
  xs.length = l * s ∧ l ≤ c ∧
  ((a = none ∧ c = 0) ∨ ∃ b cur, a = some ⟨b, 0, none⟩ ∧ Blk w b cur e ∧ cur.size = c * s ∧ cur.toList.take (l * s) = xs)
theorem Sl.nil (w : World) (e : TypeId) (s : Nat) : Sl w e s none 0 0 [] := ⟨by simp, Nat.le_refl _, .inl ⟨rfl, rfl⟩⟩
theorem Sl.rd {w : World} {e : TypeId} {s : Nat} {a : Option Addr} {l c : Nat} {xs : List Value} (h : Sl w e s a l c xs) : Rd w a xs := by
  obtain ⟨hl, hc, h⟩ := h
  rcases h with ⟨rfl, hc0⟩ | ⟨b, cur, rfl, hb, hs, ht⟩
  · have hl0 : l = 0 := by omega
    subst hl0
    have : xs = [] := List.eq_nil_of_length_eq_zero (by simpa using hl)
    subst this
    exact Rd.nil _ _
  · refine Rd.of_blk hb fun i v hv => ?_
    rw [← ht, List.getElem?_take] at hv
    split at hv
    · simpa using hv
    · cases hv
theorem Sl.kp {S : Nat → Prop} {w w' : World} {e : TypeId} {s : Nat} {a : Option Addr} {l c : Nat} {xs : List Value} (h : Sl w e s a l c xs) (k : Kp S w w') (hn : ∀ b, Is a b → ¬ S b) : Sl w' e s a l c xs := by
  obtain ⟨hl, hc, h⟩ := h
  refine ⟨hl, hc, ?_⟩
  rcases h with h | ⟨b, cur, rfl, hb, r⟩
  · exact .inl h
  · exact .inr ⟨b, cur, rfl, k.blk hb (hn b ⟨_, rfl, rfl⟩), r⟩
theorem Sl.kp0 {w w' : World} {e : TypeId} {s : Nat} {a : Option Addr} {l c : Nat} {xs : List Value} (h : Sl w e s a l c xs) (k : Kp no w w') : Sl w' e s a l c xs := h.kp k fun _ _ h => h.elim
theorem Sl.lt {w : World} {e : TypeId} {s : Nat} {a : Option Addr} {l c : Nat} {xs : List Value} (h : Sl w e s a l c xs) : ∀ k, Is a k → k < w.heap.size := by
  rintro k ⟨ad, rfl, rfl⟩
  rcases h.2.2 with ⟨h, _⟩ | ⟨b, cur, h, hb, _⟩
  · cases h
  · cases h; exact hb.lt
theorem Sl.len {w : World} {e : TypeId} {a : Option Addr} {l c : Nat} {xs : List Value} (h : Sl w e 1 a l c xs) : xs.length = l := by simpa using h.1
section
variable {P : Program}
def ElemRow (P : Program) (t e : TypeId) (z : Value) (s by_ : Nat) : Prop := P.underlying t = some (.slice e) ∧ ∃ i, P.info? e = some i ∧ i.zero = some z ∧ i.size = s ∧ i.bytes = by_ ∧ z.cells.size = s
theorem zeroCells_size (z : Array Value) (n : Nat) : (Builtin.zeroCells z n).size = n * z.size := by simp [Builtin.zeroCells]
theorem rd_addr {w : World} {a : Addr} {xs : List Value} (h : Rd w (some a) xs) : ∀ j v, xs[j]? = some v → w.cell? (a.add j) = some v := fun j v hv => by
  obtain ⟨b, o, ha, hc⟩ := h j v hv
  cases ha
  rw [add_at]
  exact hc
theorem append_own {t e ty : TypeId} {z : Value} {s by_ : Nat} (hr : ElemRow P t e z s by_) {w : World} {a : Option Addr} {l c : Nat} {xs : List Value} (hs : Sl w e s a l c xs)
    {a2 : Option Addr} {m c2 : Nat} {news : List Value} (hn : Rd w a2 news) (hm : news.length = m * s) (h2 : a2 = none → m = 0) (h1 : ∀ u ∈ news, u.oneCell' = true)
    (h63 : l + m ≤ 9223372036854775807) (hb : (l + m) * by_ ≤ 140737488355328) {K : Value → World → Prop}
    (h : ∀ a' c' w', Sl w' e s a' (l + m) c' (xs ++ news) → Kp (Is a) w w' → (∀ k, Is a' k → Is a k ∨ w.heap.size ≤ k) → (l + m ≤ c → a' = a ∧ c' = c) → (c < l + m → Fresh w a' ∧ Kp no w w') → K (.slice a' (l + m) c') w') :
    RunF P (Builtin.append_ #[t, t] ty #[.slice a l c, .slice a2 m c2]) w K := by
  obtain ⟨ht, i, hi, hz, rfl, rfl, hzs⟩ := hr
  obtain ⟨hl, hlc, hs⟩ := hs
  by_cases hroom : l + m ≤ c
  · -- there is room
    rcases hs with ⟨rfl, rfl⟩ | ⟨b, cur, rfl, hblk, hcs, htk⟩
    · have hl0 : l = 0 := by omega
      have hm0 : m = 0 := by omega
      subst hl0 hm0
      have hn0 : news = [] := List.eq_nil_of_length_eq_zero (by simpa using hm)
      have hx0 : xs = [] := List.eq_nil_of_length_eq_zero (by simpa using hl)
      subst hn0 hx0
      refine ⟨_, w, ?_, h none 0 w (Sl.nil _ _ _) (Kp.refl _ _) (fun k hk => .inl hk) (fun _ => ⟨rfl, rfl⟩) (fun hh => by omega)⟩
      cases a2 with
      | none => simp [Builtin.append_, run_underlying ht, sizeOf, typeInfo, hi, Builtin.lenOf, Builtin.firstCells]
      | some ad => simp [Builtin.append_, run_underlying ht, sizeOf, typeInfo, hi, Builtin.lenOf, Builtin.firstCells, loadCells, loadCellsFrom]
    · cases a2 with
      | none =>
        have hm0 := h2 rfl
        subst hm0
        have hn0 : news = [] := List.eq_nil_of_length_eq_zero (by simpa using hm)
        subst hn0
        refine ⟨_, w, ?_, h _ c w ⟨by simpa using hl, hlc, .inr ⟨b, cur, rfl, hblk, hcs, by simpa using htk⟩⟩ (Kp.refl _ _) (fun k hk => .inl hk) (fun _ => ⟨rfl, rfl⟩) (fun hh => by omega)⟩
        simp [Builtin.append_, run_underlying ht, sizeOf, typeInfo, hi, Builtin.lenOf, Builtin.firstCells, storeCells, hlc]
      | some ad =>
        have hfit : l * i.size + news.length ≤ cur.size := by rw [hm, hcs, ← Nat.add_mul]; exact Nat.mul_le_mul_right _ hroom
        have hrun := run_append_room (P := P) w t ty e i ht hi b l c cur hblk ad m c2 news hm (rd_addr hn) h1 hroom hfit
        refine ⟨_, _, hrun, h _ c _ ⟨?_, hroom, .inr ⟨b, _, rfl, setRow_heap w b cur _ e _ hblk, ?_, ?_⟩⟩ ⟨rfl, rfl, rfl, by simp, fun k _ hk => setRow_other w b k _ fun hkb => hk ⟨_, rfl, hkb.symm⟩⟩ (fun k hk => .inl hk) (fun _ => ⟨rfl, rfl⟩) (fun hh => by omega)⟩
        · rw [List.length_append, hl, hm, Nat.add_mul]
        · simp only [List.size_toArray, List.length_append, List.length_take, List.length_drop, Array.length_toList]; omega
        · have hlen : (xs ++ news).length = (l + m) * i.size := by rw [List.length_append, hl, hm, Nat.add_mul]
          simp only [htk, ← hlen]
          exact List.take_left
  · -- it grows
    have hm0 : 0 < m := by omega
    cases a2 with
    | none => exact absurd (h2 rfl) (by omega)
    | some ad =>
      have hlen : (xs ++ news).length = (l + m) * i.size := by rw [List.length_append, hl, hm, Nat.add_mul]
      have fin : ∀ (old : Nat), Sl (w.drew.alloc (.cells (xs.toArray ++ news.toArray ++ Builtin.zeroCells z.cells (grownCap w (l + m) old e - (l + m))) e)) e i.size (some ⟨w.heap.size, 0, none⟩) (l + m) (grownCap w (l + m) old e) (xs ++ news) := by
        intro old
        have hge := grownCap_ge w (l + m) old e
        refine ⟨hlen, hge, .inr ⟨w.heap.size, _, rfl, heap_alloc_new w.drew _, ?_, ?_⟩⟩
        · simp only [Array.size_append, List.size_toArray, zeroCells_size, hzs, hl, hm, ← Nat.add_mul]
          congr 1
          omega
        · simp only [Array.toList_append, List.append_assoc]
          rw [← List.append_assoc, ← hlen]
          exact List.take_left
      have hfr : Fresh w (some ⟨w.heap.size, 0, none⟩) := by rintro k ⟨ad, had, rfl⟩; cases had; exact Nat.le_refl _
      have hkp : ∀ o S, Kp S w (w.drew.alloc o) := fun o S => ⟨rfl, rfl, rfl, by simp, fun k hk _ => Below.heap_alloc w.drew _ _ hk⟩
      rcases hs with ⟨rfl, rfl⟩ | ⟨b, cur, rfl, hblk, hcs, htk⟩
      · have hl0 : l = 0 := by omega
        subst hl0
        have hx0 : xs = [] := List.eq_nil_of_length_eq_zero (by simpa using hl)
        subst hx0
        have hrun := run_append_nil (P := P) w t ty e i z ht hi hz ad m c2 news hm (rd_addr hn) (by omega) (by omega) (by have := hb; simp only [Nat.zero_add] at this; omega)
        have hf := fin 0
        simp only [Nat.zero_add, List.nil_append] at hf
        have e0 : (#[] : Array Value) ++ news.toArray = news.toArray := by simp
        rw [e0] at hf
        have hh := h (some ⟨w.heap.size, 0, none⟩) (grownCap w m 0 e) _ (by simpa only [Nat.zero_add, List.nil_append] using hf) (hkp _ _) (fun k hk => .inr (hfr k hk)) (fun hh => by omega) (fun _ => ⟨hfr, hkp _ _⟩)
        simp only [Nat.zero_add] at hh
        exact ⟨_, _, hrun, hh⟩
      · have hold : ∀ j v, xs[j]? = some v → w.cell? ((⟨b, 0, none⟩ : Addr).add j) = some v := fun j v hv => by
          rw [add_at, hblk.cell]
          rw [← htk, List.getElem?_take] at hv
          split at hv
          · simpa using hv
          · cases hv
        have hrun := run_append_grow (P := P) w t ty e i z ht hi hz ⟨b, 0, none⟩ l c xs hl hold ad m c2 news hm (rd_addr hn) (by omega) (by omega) (growslice_fits (by omega) hb)
        exact ⟨_, _, hrun, h _ _ _ (fin c) (hkp _ _) (fun k hk => .inr (hfr k hk)) (fun hh => by omega) (fun _ => ⟨hfr, hkp _ _⟩)⟩
theorem append_new {t e ty : TypeId} {z : Value} {s by_ : Nat} (hr : ElemRow P t e z s by_) {w : World} {a2 : Option Addr} {m c2 : Nat} {news : List Value} (hn : Rd w a2 news) (hm : news.length = m * s) (h2 : a2 = none → m = 0)
    (h1 : ∀ u ∈ news, u.oneCell' = true) (h63 : m ≤ 9223372036854775807) (hb : m * by_ ≤ 140737488355328) {K : Value → World → Prop}
    (h : ∀ a' c' w', Sl w' e s a' m c' news → Kp no w w' → Fresh w a' → (m = 0 → a' = none ∧ c' = 0) → K (.slice a' m c') w') :
    RunF P (Builtin.append_ #[t, t] ty #[.slice none 0 0, .slice a2 m c2]) w K := by
  refine append_own hr (Sl.nil w e s) hn hm h2 h1 (by omega) (by simpa using hb) fun a' c' w' hs hk hi hroom hgrow => ?_
  simp only [Nat.zero_add, List.nil_append] at *
  by_cases hm0 : m = 0
  · obtain ⟨rfl, rfl⟩ := hroom (by omega)
    refine h _ _ _ hs (hk.mono fun k _ hk => ?_) (by rintro k ⟨ad, had, _⟩; cases had) fun _ => ⟨rfl, rfl⟩
    obtain ⟨ad, had, _⟩ := hk
    cases had
  · obtain ⟨hf, hk0⟩ := hgrow (by omega)
    exact h _ _ _ hs hk0 hf fun h0 => absurd h0 hm0
def bv (x : UInt8) : Value := .int .u8 (x.toNat : Int)
def bvs (l : List UInt8) : List Value := l.map bv
theorem bvs_one {l : List UInt8} : ∀ u ∈ bvs l, u.oneCell' = true := fun u hu => by
  obtain ⟨x, _, rfl⟩ := List.mem_map.1 hu
  rfl
theorem bvs_get {l : List UInt8} {i : Nat} (h : i < l.length) : (bvs l)[i]? = some (bv l[i]) := by simp [bvs, h]
theorem push_bytes : ∀ (l : List UInt8) (r : ByteArray), ((l.map fun x => (x.toNat : Int)).foldl (fun r n => r.push (UInt8.ofNat n.toNat)) r).data.toList = r.data.toList ++ l
  | [], r => by simp
  | x :: l, r => by
    rw [List.map_cons, List.foldl_cons, push_bytes l]
    simp [ByteArray.push]
theorem toList_eq (b : ByteArray) : b.toList = b.data.toList := ByteArray.toList_eq b
theorem convert_bytes {t u e : TypeId} (ht : P.underlying t = some (.slice e)) (hu : P.underlying u = some .string) (he : P.underlying e = some (.int .u8)) {w : World} {a : Option Addr} {l c : Nat} {bs : List UInt8}
    (hn : Rd w a (bvs bs)) (hl : bs.length = l) (h0 : a = none → l = 0) {K : Value → World → Prop} (h : ∀ z : ByteArray, z.toList = bs → K (.string z) w) : RunF P (convert t u (.slice a l c)) w K := by
  cases a with
  | none =>
    have hl0 := h0 rfl
    subst hl0
    have : bs = [] := List.eq_nil_of_length_eq_zero hl
    subst this
    refine ⟨_, w, ?_, h .empty (by rw [toList_eq]; rfl)⟩
    simp [convert, run_underlying ht, run_underlying hu, run_underlying he, Conv.bytesToString]
  | some ad =>
    have hc := run_loadCells_list (P := P) w ad (bvs bs) (rd_addr hn)
    have hr := run_bytesToString (P := P) w ad l c (bs.map fun x => (x.toNat : Int)) (by
      have : (bvs bs).length = l := by simp [bvs, hl]
      rw [← this, hc]
      simp [bvs, bv, Function.comp_def])
    refine ⟨_, w, ?_, h _ (by rw [toList_eq]; exact push_bytes bs .empty)⟩
    simp only [convert, Sem.run_bind, run_underlying ht, run_underlying hu, Result.andThen_ok, run_underlying he]
    exact hr
end
end Go.Proofs.YtkfdkcclojepnaaGreat
