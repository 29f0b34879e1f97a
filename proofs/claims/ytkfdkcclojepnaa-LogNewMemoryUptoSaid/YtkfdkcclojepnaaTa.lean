/- General: lists of values in slices, owners of blocks. Conditions: none. -/
import Derived.Test.YtkfdkcclojepnaaF0
import Derived.Test.YtkfdkcclojepnaaNum
set_option linter.unusedVariables false
set_option linter.unusedSimpArgs false
namespace Go.Proofs.Ytkfdkcclojepnaa
open Go Go.RowKit

/-- Elements' cells, one behind the other. -/
def flatV {α : Type} (f : α → List Value) : List α → List Value
  | [] => []
  | x :: r => f x ++ flatV f r
theorem flatV_len {α : Type} {f : α → List Value} {s : Nat} (hs : ∀ x, (f x).length = s) : ∀ L, (flatV f L).length = L.length * s
  | [] => by simp [flatV]
  | x :: r => by rw [flatV, List.length_append, hs, flatV_len hs r, List.length_cons, Nat.add_mul, Nat.one_mul, Nat.add_comm]
theorem flatV_app {α : Type} (f : α → List Value) : ∀ L M, flatV f (L ++ M) = flatV f L ++ flatV f M
  | [], M => rfl
  | x :: r, M => by rw [List.cons_append, flatV, flatV, flatV_app f r M, List.append_assoc]
theorem flatV_get {α : Type} {f : α → List Value} {s : Nat} (hs : ∀ x, (f x).length = s) : ∀ (L : List α) (i : Nat) (h : i < L.length) (q : Nat), q < s → (flatV f L)[i * s + q]? = (f L[i])[q]?
  | [], i, h, _, _ => by simp at h
  | x :: r, 0, h, q, hq => by rw [flatV, Nat.zero_mul, Nat.zero_add, List.getElem?_append_left (by rw [hs]; exact hq)]; rfl
  | x :: r, i + 1, h, q, hq => by
    have h1 : (i + 1) * s + q = (f x).length + (i * s + q) := by rw [hs, Nat.add_mul, Nat.one_mul]; omega
    rw [flatV, h1, List.getElem?_append_right (by omega), Nat.add_sub_cancel_left, flatV_get hs r i (by simpa using h) q hq]
    rfl
theorem flatV_one {α : Type} {f : α → List Value} (h1 : ∀ x, ∀ u ∈ f x, u.oneCell' = true) : ∀ L, ∀ u ∈ flatV f L, u.oneCell' = true
  | [], u, hu => by cases hu
  | x :: r, u, hu => by
    rw [flatV, List.mem_append] at hu
    rcases hu with hu | hu
    · exact h1 x u hu
    · exact flatV_one h1 r u hu
theorem flatV_take {α : Type} {f : α → List Value} {s : Nat} (hs : ∀ x, (f x).length = s) : ∀ (L : List α) (k : Nat), (flatV f L).take (k * s) = flatV f (L.take k)
  | L, 0 => by simp [flatV]
  | [], k + 1 => by simp [flatV]
  | x :: r, k + 1 => by
    rw [flatV, List.take_succ_cons, flatV, Nat.add_mul, Nat.one_mul, Nat.add_comm, List.take_append, hs, List.take_of_length_le (by rw [hs]; omega), Nat.add_sub_cancel_left, flatV_take hs r k]

theorem rd_cells {w : World} {b : Nat} {T : TypeId} {xs : List Value} {cs : Array Value} (h : Blk w b cs T) (hc : cs.toList = xs) : Rd w (some ⟨b, 0, none⟩) xs :=
  Rd.of_blk h fun i v hv => by rw [Nat.zero_add, ← Array.getElem?_toList, hc]; exact hv

theorem StF.at {w : World} {b i : Nat} {ad : Addr} {cs : Array Value} {T : TypeId} {v : Value} {K : World → Prop} (had : ad = ⟨b, i, none⟩) (hb : Blk w b cs T) (hi : i < cs.size)
    (h : ∀ w', Blk w' b (cs.setIfInBounds i v) T → Kp (fun k => k = b) w w' → w'.heap.size = w.heap.size → K w') : StF w ad v K := by
  subst had
  exact StF.intro hb hi h
theorem add2_at (b n m : Nat) : Addr.add (Addr.add ⟨b, 0, none⟩ n) m = ⟨b, 0 + n + m, none⟩ := by rw [add_at, add_at]

theorem kp_blk {w w1 w2 : World} {b : Nat} (k : Kp no w w1) (h : w.heap.size ≤ b) (k' : Kp (fun j => j = b) w1 w2) : Kp no w w2 := k.trans k' (fun _ _ h => h) fun j hj hh => by omega
theorem is_none {k : Nat} (h : Is none k) : False := by obtain ⟨ad, h0, _⟩ := h; cases h0
theorem make_u8 {w : World} {n : Nat} (hn : n ≤ 70368744177664) {K : Value → World → Prop}
    (h : ∀ b w' cur, Blk w' b cur T_uint8 → cur.toList = bvs (List.replicate n 0) → Kp no w w' → b = w.heap.size → K (.slice (some ⟨b, 0, none⟩) n n) w') :
    RunF Try.prog (Instr.makeSlice T_s_uint8 (.int .i64 (n : Int)) (.int .i64 (n : Int))) w K := by
  obtain ⟨ht, i, hi, hz, hs, hb, _⟩ := er_u8
  have hrun := run_make (P := Try.prog) w T_s_uint8 T_uint8 i (.int .u8 0) ht hi hz .i64 .i64 (n : Int) (n : Int) (by omega) (Int.le_refl _) (by rw [hb]; omega) (by omega)
  rw [Int.toNat_natCast] at hrun
  refine ⟨_, _, hrun, AlF.intro (K := fun b w' => K (.slice (some ⟨b, 0, none⟩) n n) w') fun b w' hb hblk k _ => h b w' _ hblk ?_ k hb⟩
  rw [hs, Nat.mul_one]
  apply List.ext_getElem?
  intro j
  simp only [madeCells, Array.toList_map, Array.toList_range, List.getElem?_map, bvs, List.map_replicate, List.getElem?_replicate]
  by_cases hj : j < n
  · rw [List.getElem?_range hj, if_pos hj]
    simp [Value.cells, Nat.mod_one, bv]
  · rw [List.getElem?_eq_none (by simpa using hj), if_neg hj]
    rfl

/-- From one world and its owners to a later one: blocks whose owner is in T are kept, and so is their owner. -/
structure Fro (T : Nat → Prop) (w : World) (ow : Nat → Nat) (w' : World) (ow' : Nat → Nat) : Prop where
  kp : Kp (fun k => ¬ T (ow k)) w w'
  ag : ∀ k, k < w.heap.size → T (ow k) → ow' k = ow k
theorem Fro.trans {T : Nat → Prop} {w w1 w2 : World} {ow ow1 ow2 : Nat → Nat} (h : Fro T w ow w1 ow1) (h' : Fro T w1 ow1 w2 ow2) : Fro T w ow w2 ow2 := by
  refine ⟨h.kp.trans h'.kp (fun _ _ h => h) fun k hk hn ht => hn (by rw [h.ag k hk ht]; exact ht), fun k hk ht => ?_⟩
  have h1 := h.ag k hk ht
  rw [h'.ag k (by have := h.kp.size; omega) (by rw [h1]; exact ht), h1]
theorem Fro.mono {T T' : Nat → Prop} {w w' : World} {ow ow' : Nat → Nat} (h : Fro T w ow w' ow') (ht : ∀ t, T' t → T t) : Fro T' w ow w' ow' :=
  ⟨h.kp.mono fun k _ hn ht' => hn (ht _ ht'), fun k hk h1 => h.ag k hk (ht _ h1)⟩
/-- New blocks get an owner. -/
def ext (ow : Nat → Nat) (n t : Nat) : Nat → Nat := fun k => if k < n then ow k else t
theorem ext_old {ow : Nat → Nat} {n t k : Nat} (h : k < n) : ext ow n t k = ow k := by unfold ext; rw [if_pos h]
theorem ext_new {ow : Nat → Nat} {n t k : Nat} (h : n ≤ k) : ext ow n t k = t := by unfold ext; rw [if_neg (by omega)]
theorem Fro.of_kp {T S : Nat → Prop} {w w' : World} {ow : Nat → Nat} (t : Nat) (k : Kp S w w') (hs : ∀ b, b < w.heap.size → S b → ¬ T (ow b)) : Fro T w ow w' (ext ow w.heap.size t) :=
  ⟨k.mono fun b hb h => hs b hb h, fun b hb _ => ext_old hb⟩
theorem Fro.of_kp0 {T : Nat → Prop} {w w' : World} {ow : Nat → Nat} (t : Nat) (k : Kp no w w') : Fro T w ow w' (ext ow w.heap.size t) := Fro.of_kp t k fun _ _ h => h.elim
/-- Nothing new is owned. -/
theorem Fro.of_kp' {T S : Nat → Prop} {w w' : World} {ow : Nat → Nat} (k : Kp S w w') (hs : ∀ b, b < w.heap.size → S b → ¬ T (ow b)) : Fro T w ow w' ow :=
  ⟨k.mono fun b hb h => hs b hb h, fun b hb _ => rfl⟩

def Tg (ow : Nat → Nat) (t : Nat) (F : Nat → Prop) : Prop := ∀ k, F k → ow k = t
theorem Tg.fr {T F : Nat → Prop} {w w' : World} {ow ow' : Nat → Nat} {t : Nat} (h : Tg ow t F) (f : Fro T w ow w' ow') (ht : T t) (hlt : ∀ k, F k → k < w.heap.size) : Tg ow' t F := fun k hk => by
  have := h k hk
  rw [f.ag k (hlt k hk) (by rw [this]; exact ht), this]
/-- The caller's blocks have owner 0, and are as they were. -/
structure Old (w0 w : World) (ow : Nat → Nat) : Prop where
  kp : Kp no w0 w
  z : ∀ k, k < w0.heap.size → ow k = 0
theorem Old.fr {T : Nat → Prop} {w0 w w' : World} {ow ow' : Nat → Nat} (h : Old w0 w ow) (f : Fro T w ow w' ow') (ht : T 0) : Old w0 w' ow' := by
  refine ⟨h.kp.trans f.kp (fun _ _ h => h) fun k hk hn => (hn (by rw [h.z k hk]; exact ht)).elim, fun k hk => ?_⟩
  have := h.z k hk
  rw [f.ag k (by have := h.kp.size; omega) (by rw [this]; exact ht), this]

open Classical in
/-- The blocks of F get an owner. -/
noncomputable def tag (F : Nat → Prop) (t : Nat) (ow : Nat → Nat) : Nat → Nat := fun k => if F k then t else ow k
theorem tag_in {F : Nat → Prop} {t : Nat} {ow : Nat → Nat} {k : Nat} (h : F k) : tag F t ow k = t := by unfold tag; rw [if_pos h]
theorem tag_out {F : Nat → Prop} {t : Nat} {ow : Nat → Nat} {k : Nat} (h : ¬ F k) : tag F t ow k = ow k := by unfold tag; rw [if_neg h]

/-- An owned slice and its owner. -/
structure SlT (w : World) (ow : Nat → Nat) (e : TypeId) (s : Nat) (a : Option Addr) (l c : Nat) (xs : List Value) (t : Nat) : Prop where
  sl : Sl w e s a l c xs
  tg : Tg ow t (Is a)
section
variable {T : Nat → Prop} {w w' : World} {ow ow' : Nat → Nat}
theorem SlT.fr {e : TypeId} {s : Nat} {a : Option Addr} {l c : Nat} {xs : List Value} {t : Nat} (h : SlT w ow e s a l c xs t) (f : Fro T w ow w' ow') (ht : T t) : SlT w' ow' e s a l c xs t :=
  ⟨h.sl.kp f.kp fun b hb hn => hn (by rw [h.tg b hb]; exact ht), h.tg.fr f ht h.sl.lt⟩
theorem blk_fr {b : Nat} {cs : Array Value} {X : TypeId} {t : Nat} (h : Blk w b cs X) (ht : ow b = t) (f : Fro T w ow w' ow') (hT : T t) : Blk w' b cs X ∧ ow' b = t :=
  ⟨f.kp.blk h fun hn => hn (by rw [ht]; exact hT), by rw [f.ag b h.lt (by rw [ht]; exact hT), ht]⟩
end
theorem Fro.new {T : Nat → Prop} {w w' : World} {ow ow' : Nat → Nat} (k : Kp no w w') (h : ∀ b, b < w.heap.size → ow' b = ow b) : Fro T w ow w' ow' := ⟨k.of_no, fun b hb _ => h b hb⟩

section
variable {P : Program}
/-- append to an owned slice, by its owner. -/
theorem app_c {t e ty : TypeId} {z : Value} {s by_ : Nat} (hr : ElemRow P t e z s by_) {w : World} {ow : Nat → Nat} {a : Option Addr} {l c : Nat} {xs : List Value} {u : Nat} (hs : SlT w ow e s a l c xs u)
    {a2 : Option Addr} {m c2 : Nat} {news : List Value} (hn : Rd w a2 news) (hm : news.length = m * s) (h2 : a2 = none → m = 0) (h1 : ∀ v ∈ news, v.oneCell' = true)
    (h63 : l + m ≤ 9223372036854775807) (hb : (l + m) * by_ ≤ 140737488355328) {K : Value → World → Prop}
    (h : ∀ a' c' w', SlT w' (ext ow w.heap.size u) e s a' (l + m) c' (xs ++ news) u → Kp (Is a) w w' → Fro (fun v => v ≠ u) w ow w' (ext ow w.heap.size u) → K (.slice a' (l + m) c') w') :
    RunF P (Builtin.append_ #[t, t] ty #[.slice a l c, .slice a2 m c2]) w K := by
  refine append_own hr hs.sl hn hm h2 h1 h63 hb fun a' c' w' hs' k' hi _ _ => ?_
  refine h a' c' w' ⟨hs', fun j hj => ?_⟩ k' (Fro.of_kp u k' fun b _ hb' hne => hne (hs.tg b hb'))
  by_cases hl : j < w.heap.size
  · rw [ext_old hl]
    rcases hi j hj with hh | hh
    · exact hs.tg j hh
    · omega
  · exact ext_new (by omega)
end

theorem Sl.shrink {w : World} {e : TypeId} {s : Nat} {a : Option Addr} {l m c : Nat} {xs news : List Value} (h : Sl w e s a (l + m) c (xs ++ news)) (hl : xs.length = l * s) : Sl w e s a l c xs := by
  obtain ⟨h1, h2, h3⟩ := h
  refine ⟨hl, by omega, ?_⟩
  rcases h3 with h3 | ⟨b, cur, ha, hb, hs, ht⟩
  · exact .inl h3
  · refine .inr ⟨b, cur, ha, hb, hs, ?_⟩
    have e1 : l * s ≤ (l + m) * s := Nat.mul_le_mul_right _ (by omega)
    have := congrArg (List.take (l * s)) ht
    rw [List.take_take, Nat.min_eq_left e1, ← hl, List.take_left] at this
    rw [← hl]
    exact this

/-- One cell of an owned slice, whatever its elements. -/
theorem Sl.putv {w : World} {e : TypeId} {s : Nat} {b l c i : Nat} {xs : List Value} (h : Sl w e s (some ⟨b, 0, none⟩) l c xs) (hi : i < l * s) {v : Value} {ad : Addr} (had : ad = ⟨b, i, none⟩) {K : World → Prop}
    (hk : ∀ w', Sl w' e s (some ⟨b, 0, none⟩) l c (xs.set i v) → Kp (Is (some ⟨b, 0, none⟩)) w w' → w'.heap.size = w.heap.size → K w') : StF w ad v K := by
  obtain ⟨h1, h2, h3⟩ := h
  rcases h3 with ⟨h3, _⟩ | ⟨b', cur, ha, hblk, hsz, htk⟩
  · cases h3
  cases ha
  have hls : l * s ≤ c * s := Nat.mul_le_mul_right _ h2
  refine StF.at had hblk (by omega) fun w' hb' k' s' => hk w' ⟨by rw [List.length_set]; exact h1, h2, .inr ⟨b, _, rfl, hb', by simpa using hsz, ?_⟩⟩ (k'.mono fun k _ hkb => ⟨_, rfl, hkb.symm⟩) s'
  rw [← htk, Array.toList_setIfInBounds, List.take_set]

theorem slt_put {w : World} {ow : Nat → Nat} {e : TypeId} {a : Option Addr} {l c i t b o : Nat} {xs : List Value} (h : SlT w ow e 1 a l c xs t) (ha : a = some ⟨b, o, none⟩) (hi : i < l) {v : Value} {ad : Addr} (had : ad = ⟨b, o + i, none⟩) {K : World → Prop}
    (hk : ∀ w', SlT w' ow e 1 a l c (xs.set i v) t → Fro (fun u => u ≠ t) w ow w' ow → K w') : StF w ad v K := by
  obtain ⟨b', cur, ha', _⟩ := h.sl.addr (by omega)
  rw [ha'] at ha
  cases ha
  have hs := h.sl
  have ht := h.tg
  rw [ha'] at hs ht hk
  refine hs.putv (by omega) (by rw [had, Nat.zero_add]) fun w' hs' k' s' => hk w' ⟨hs', ht⟩ (Fro.of_kp' k' fun b' _ hb' hne => hne (ht b' hb'))
theorem bvs_set (l : List UInt8) (i : Nat) (x : UInt8) : (bvs l).set i (bv x) = bvs (l.set i x) := by simp [bvs, List.map_set]
theorem half_set {α : Type} {X Y : List α} {j : Nat} (hj : j < X.length) (hl : X.length = Y.length) {x : α} (hx : X[j] = x) : (X.take j ++ Y.drop j).set j x = X.take (j + 1) ++ Y.drop (j + 1) := by
  have e1 : j - (X.take j).length = 0 := by simp; omega
  rw [List.set_append_right _ _ (by simp; omega), e1, List.drop_eq_getElem_cons (by omega : j < Y.length), List.set_cons_zero, take_snoc_get X j hj, List.append_assoc, hx]
  rfl

theorem slt_nil (w : World) (ow : Nat → Nat) (e : TypeId) (s t : Nat) : SlT w ow e s none 0 0 [] t := ⟨Sl.nil w e s, fun j hj => by obtain ⟨_, hh, _⟩ := hj; cases hh⟩

theorem sl_some {w : World} {e : TypeId} {a : Option Addr} {l c : Nat} {xs : List Value} (h : Sl w e 1 a l c xs) (hl : 0 < l) : a = none → l = 0 := fun h0 => by
  obtain ⟨b, cur, ha, _⟩ := h.addr hl
  rw [h0] at ha
  cases ha
end Go.Proofs.Ytkfdkcclojepnaa
