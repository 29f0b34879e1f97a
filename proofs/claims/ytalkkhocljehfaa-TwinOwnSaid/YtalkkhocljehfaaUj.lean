/- General: families of owned slices, each with an owner of its own; a list of them; one made longer, the shorter one standing. Conditions: none. -/
import Derived.Test.YtalkkhocljehfaaTa
set_option linter.unusedVariables false
set_option linter.unusedSimpArgs false
namespace Go.Proofs.Ytalkkhocljehfaa
open Go Go.RowKit

/-- A slice in a list. -/
structure SI where
  a : Option Addr
  l : Nat
  c : Nat
def siV (x : SI) : Value := .slice x.a x.l x.c
/-- An owned slice whose room may have been cut off behind its end. -/
def SlQ (w : World) (ow : Nat → Nat) (e : TypeId) (s : Nat) (a : Option Addr) (l c : Nat) (xs : List Value) (t : Nat) : Prop := SlT w ow e s a l c xs t ∨ (c = l ∧ 0 < l ∧ ∃ c', SlT w ow e s a l c' xs t)
theorem SlT.q {w : World} {ow : Nat → Nat} {e : TypeId} {s l c t : Nat} {a : Option Addr} {xs : List Value} (h : SlT w ow e s a l c xs t) : SlQ w ow e s a l c xs t := .inl h
section
variable {w w' : World} {ow ow' : Nat → Nat} {e : TypeId} {s l c t : Nat} {a : Option Addr} {xs : List Value}
theorem SlQ.ex (h : SlQ w ow e s a l c xs t) : ∃ c', SlT w ow e s a l c' xs t := by
  rcases h with h | ⟨_, _, c', h⟩
  · exact ⟨c, h⟩
  · exact ⟨c', h⟩
theorem SlQ.rd (h : SlQ w ow e s a l c xs t) : Rd w a xs := by obtain ⟨c', h⟩ := h.ex; exact h.sl.rd
theorem SlQ.len1 (h : SlQ w ow e s a l c xs t) : xs.length = l * s := by obtain ⟨c', h⟩ := h.ex; exact h.sl.1
theorem SlQ.tg (h : SlQ w ow e s a l c xs t) : Tg ow t (Is a) := by obtain ⟨c', h⟩ := h.ex; exact h.tg
theorem SlQ.lt (h : SlQ w ow e s a l c xs t) : ∀ k, Is a k → k < w.heap.size := by obtain ⟨c', h⟩ := h.ex; exact h.sl.lt
theorem SlQ.addr (h : SlQ w ow e s a l c xs t) (hl : 0 < l) : ∃ b, a = some ⟨b, 0, none⟩ := by
  obtain ⟨c', h⟩ := h.ex
  obtain ⟨b, cur, ha, _⟩ := h.sl.addr hl
  exact ⟨b, ha⟩
theorem SlQ.some (h : SlQ w ow e 1 a l c xs t) : a = none → l = 0 := fun h0 => by
  obtain ⟨c', h⟩ := h.ex
  rw [h0] at h
  exact h.sl.zero.1
theorem SlQ.fr {T : Nat → Prop} (h : SlQ w ow e s a l c xs t) (f : Fro T w ow w' ow') (ht : T t) : SlQ w' ow' e s a l c xs t := by
  rcases h with h | ⟨h1, h2, c', h⟩
  · exact .inl (h.fr f ht)
  · exact .inr ⟨h1, h2, c', h.fr f ht⟩
theorem SlQ.put (h : SlQ w ow e s a l c xs t) {i : Nat} (hi : i < l * s) {b o : Nat} (ha : a = Option.some ⟨b, o, none⟩) {v : Value} {ad : Addr} (had : ad = ⟨b, o + i, none⟩) {K : World → Prop}
    (hK : ∀ w', SlQ w' ow e s a l c (xs.set i v) t → Fro (fun u => u ≠ t) w ow w' ow → K w') : StF w ad v K := by
  have h0 : 0 < l := by
    rcases Nat.eq_zero_or_pos l with h0 | h0
    · rw [h0] at hi; simp at hi
    · exact h0
  obtain ⟨b', ha'⟩ := h.addr h0
  rw [ha'] at ha
  cases ha
  subst ha'
  have go : ∀ c'', SlT w ow e s (Option.some ⟨b, 0, none⟩) l c'' xs t → (∀ w', SlT w' ow e s (Option.some ⟨b, 0, none⟩) l c'' (xs.set i v) t → Fro (fun u => u ≠ t) w ow w' ow → K w') → StF w ad v K := fun c'' hx hK' =>
    hx.sl.putv hi (by rw [had, Nat.zero_add]) fun w' hs' k' s' => hK' w' ⟨hs', hx.tg⟩ (Fro.of_kp' k' fun b' _ hb' hne => hne (hx.tg b' hb'))
  rcases h with h | ⟨h1, h2, c', h⟩
  · exact go c h fun w' hx f => hK w' (.inl hx) f
  · exact go c' h fun w' hx f => hK w' (.inr ⟨h1, h2, c', hx⟩) f
end
section
variable {P : Program}
/-- append to a slice without room: a new block. -/
theorem app_clip {t e ty : TypeId} {z : Value} {s by_ : Nat} (hr : ElemRow P t e z s by_) {w : World} {b l : Nat} {xs : List Value} (hrd : Rd w (some ⟨b, 0, none⟩) xs) (hl : xs.length = l * s)
    {a2 : Option Addr} {m c2 : Nat} {news : List Value} (hn : Rd w a2 news) (hm : news.length = m * s) (hm0 : 0 < m) (h2 : a2 = none → m = 0)
    (h63 : l + m ≤ 9223372036854775807) (hb : (l + m) * by_ ≤ 140737488355328) {K : Value → World → Prop}
    (h : ∀ c' w', Sl w' e s (some ⟨w.heap.size, 0, none⟩) (l + m) c' (xs ++ news) → Kp no w w' → K (.slice (some ⟨w.heap.size, 0, none⟩) (l + m) c') w') :
    RunF P (Builtin.append_ #[t, t] ty #[.slice (some ⟨b, 0, none⟩) l l, .slice a2 m c2]) w K := by
  obtain ⟨ht, i, hi, hz, rfl, rfl, hzs⟩ := hr
  cases a2 with
  | none => exact absurd (h2 rfl) (by omega)
  | some ad =>
    have hlen : (xs ++ news).length = (l + m) * i.size := by rw [List.length_append, hl, hm, Nat.add_mul]
    have hrun := run_append_grow (P := P) w t ty e i z ht hi hz ⟨b, 0, none⟩ l l xs hl (rd_addr hrd) ad m c2 news hm (rd_addr hn) (by omega) (by omega) (growslice_fits (by omega) hb)
    have hge := grownCap_ge w (l + m) l e
    refine ⟨_, _, hrun, h _ _ ⟨hlen, hge, .inr ⟨w.heap.size, _, rfl, heap_alloc_new w.drew _, ?_, ?_⟩⟩ ⟨rfl, rfl, rfl, by simp, fun k hk _ => Below.heap_alloc w.drew _ _ hk⟩⟩
    · simp only [Array.size_append, List.size_toArray, zeroCells_size, hzs, hl, hm, ← Nat.add_mul]
      congr 1
      omega
    · simp only [Array.toList_append, List.append_assoc]
      rw [← List.append_assoc, ← hlen]
      exact List.take_left
end
def Fam (w : World) (ow : Nat → Nat) (e : TypeId) (s base : Nat) (G : List SI) (C : Nat → List Value) : Prop := ∀ j (h : j < G.length), SlQ w ow e s (G[j]).a (G[j]).l (G[j]).c (C j) (base + j)
section
variable {T : Nat → Prop} {w w' : World} {ow ow' : Nat → Nat} {e : TypeId} {s base : Nat} {G : List SI} {C : Nat → List Value}
theorem Fam.fr (h : Fam w ow e s base G C) (f : Fro T w ow w' ow') (hT : ∀ j, j < G.length → T (base + j)) : Fam w' ow' e s base G C := fun j hj => (h j hj).fr f (hT j hj)
theorem Fam.nil : Fam w ow e s base [] C := fun j hj => absurd hj (by simp)
theorem Fam.snoc (h : Fam w ow e s base G C) {x : SI} {xs : List Value} (hx : SlQ w ow e s x.a x.l x.c xs (base + G.length)) : Fam w ow e s base (G ++ [x]) (fun j => if j = G.length then xs else C j) := fun j hj => by
  by_cases hjg : j = G.length
  · subst hjg
    rw [List.getElem_append_right (Nat.le_refl _)]
    simpa using hx
  · have hj' : j < G.length := by simp at hj; omega
    rw [List.getElem_append_left hj']
    simpa [hjg] using h j hj'
theorem Fam.congr {D : Nat → List Value} (h : Fam w ow e s base G C) (hd : ∀ j, j < G.length → C j = D j) : Fam w ow e s base G D := fun j hj => by rw [← hd j hj]; exact h j hj
theorem Fam.put (h : Fam w ow e s base G C) {k : Nat} (hk : k < G.length) {i : Nat} (hi : i < (G[k]).l * s) {b o : Nat} (ha : (G[k]).a = some ⟨b, o, none⟩) {v : Value} {ad : Addr} (had : ad = ⟨b, o + i, none⟩) {K : World → Prop}
    (hK : ∀ w', Fam w' ow e s base G (fun j => if j = k then (C k).set i v else C j) → Fro (fun u => u ≠ base + k) w ow w' ow → K w') : StF w ad v K := by
  refine (h k hk).put hi ha had fun w' hx f => hK w' (fun j hj => ?_) f
  dsimp only
  by_cases hjk : j = k
  · subst hjk
    rw [if_pos rfl]
    exact hx
  · rw [if_neg hjk]
    exact (h j hj).fr f (by omega)
end

/-- An element of a list of slices. -/
theorem siA {w : World} {ga : Option Addr} {G : List SI} (h : Rd w ga (G.map siV)) {k : Nat} (hk : k < G.length) : ∃ b o, ga = some ⟨b, o, none⟩ ∧ w.cell? ((⟨b, o, none⟩ : Addr).add k) = some (.slice (G[k]).a (G[k]).l (G[k]).c) := by
  obtain ⟨b, o, ha, hc⟩ := h k (siV G[k]) (by simp [hk])
  exact ⟨b, o, ha, by rw [add_at]; exact hc⟩
theorem siI {w : World} {ga : Option Addr} {G : List SI} (h : Rd w ga (G.map siV)) {k : Nat} (hk : k < G.length) {n : Int} (hn : n = (k : Int)) {l : Nat} (hl : G.length = l) {K : Option Addr → Nat → Nat → Prop} (hK : K (G[k]).a (G[k]).l (G[k]).c) :
    IdxF ga n l fun d => ∃ (a : Option Addr) (l c : Nat), w.cell? (d.add (Int.toNat n)) = some (.slice a l c) ∧ K a l c := by
  subst hn
  obtain ⟨b, o, ha, hc⟩ := siA h hk
  exact ⟨by omega, by omega, _, ha, _, _, _, by rw [Int.toNat_natCast]; exact hc, hK⟩
theorem siIS {S : World → Prop} {w0 : World} (h0 : S w0) {ga : Option Addr} {G : List SI} (h : ∀ w, S w → Rd w ga (G.map siV)) {k : Nat} (hk : k < G.length) {n : Int} (hn : n = (k : Int)) {l : Nat} (hl : G.length = l) {K : Option Addr → Nat → Nat → Prop} (hK : K (G[k]).a (G[k]).l (G[k]).c) :
    IdxF ga n l fun d => ∃ (a : Option Addr) (l c : Nat), (∀ w, S w → w.cell? (d.add (Int.toNat n)) = some (.slice a l c)) ∧ K a l c := by
  subst hn
  obtain ⟨b, o, ha, hc⟩ := siA (h w0 h0) hk
  refine ⟨by omega, by omega, _, ha, _, _, _, fun w hw => ?_, hK⟩
  obtain ⟨b', o', ha', hc'⟩ := siA (h w hw) hk
  rw [ha] at ha'
  cases ha'
  rw [Int.toNat_natCast]
  exact hc'
/-- A cell of a slice that is read. -/
theorem rdI {w : World} {a : Option Addr} {xs : List Value} (h : Rd w a xs) {i : Nat} {v : Value} (hv : xs[i]? = some v) {n : Int} (hn : n = (i : Int)) {l : Nat} (hi : i < l) {K : Addr → Prop} (hK : ∀ b o, a = some ⟨b, o, none⟩ → w.cell? ((⟨b, o, none⟩ : Addr).add (Int.toNat n)) = some v → K ⟨b, o, none⟩) : IdxF a n l K := by
  subst hn
  obtain ⟨b, o, ha, hc⟩ := h i v hv
  exact ⟨by omega, by omega, _, ha, hK b o ha (by rw [Int.toNat_natCast, add_at]; exact hc)⟩

section
variable {P : Program}
/-- One element more on an owned list. -/
theorem pushT {t e ty : TypeId} {z : Value} {by_ : Nat} (hr : ElemRow P t e z 1 by_) {w : World} {ow : Nat → Nat} {a : Option Addr} {l c u : Nat} {xs : List Value} (hs : SlT w ow e 1 a l c xs u) {v : Value} (hv : v.oneCell' = true)
    (h63 : l + 1 ≤ 9223372036854775807) (hb : (l + 1) * by_ ≤ 140737488355328) {K : Option Addr → Nat → Nat → World → Prop}
    (h : ∀ a' c' w', SlT w' (ext ow w.heap.size u) e 1 a' (l + 1) c' (xs ++ [v]) u → Kp (Is a) w w' → Fro (fun x => x ≠ u) w ow w' (ext ow w.heap.size u) → K a' (l + 1) c' w') :
    AlF w (.cells #[v] e) fun b w2 => RunF P (Builtin.append_ #[t, t] ty #[.slice a l c, .slice (some ⟨b, 0, none⟩) 1 1]) w2 fun r w3 => ∃ (a2 : Option Addr) (l2 c2 : Nat), r = .slice a2 l2 c2 ∧ K a2 l2 c2 w3 := by
  refine push_own hr hs.sl hv h63 hb fun a' c' w' hs' k' hi => h a' c' w' ⟨hs', fun j hj => ?_⟩ k' (Fro.of_kp u k' fun b _ hb' hne => hne (hs.tg b hb'))
  by_cases hl : j < w.heap.size
  · rw [ext_old hl]
    rcases hi j hj with hh | hh
    · exact hs.tg j hh
    · omega
  · exact ext_new (by omega)
/-- An owned slice made longer; the shorter one stands too. -/
theorem app_both {t e ty : TypeId} {z : Value} {s by_ : Nat} (hr : ElemRow P t e z s by_) {w : World} {ow : Nat → Nat} {a : Option Addr} {l c : Nat} {xs : List Value} {u : Nat} (hs : SlT w ow e s a l c xs u)
    {a2 : Option Addr} {m c2 : Nat} {news : List Value} (hn : Rd w a2 news) (hm : news.length = m * s) (h2 : a2 = none → m = 0) (h1 : ∀ v ∈ news, v.oneCell' = true)
    (h63 : l + m ≤ 9223372036854775807) (hb : (l + m) * by_ ≤ 140737488355328) {K : Value → World → Prop}
    (h : ∀ a' c' w', SlT w' (ext ow w.heap.size u) e s a' (l + m) c' (xs ++ news) u → SlT w' (ext ow w.heap.size u) e s a l c xs u → Kp (Is a) w w' → Fro (fun v => v ≠ u) w ow w' (ext ow w.heap.size u) → K (.slice a' (l + m) c') w') :
    RunF P (Builtin.append_ #[t, t] ty #[.slice a l c, .slice a2 m c2]) w K := by
  refine append_own hr hs.sl hn hm h2 h1 h63 hb fun a' c' w' hs' k' hi hroom hgrow => ?_
  have ht : Tg (ext ow w.heap.size u) u (Is a) := fun j hj => by rw [ext_old (hs.sl.lt j hj)]; exact hs.tg j hj
  refine h a' c' w' ⟨hs', fun j hj => ?_⟩ ⟨?_, ht⟩ k' (Fro.of_kp u k' fun b _ hb' hne => hne (hs.tg b hb'))
  · by_cases hl : j < w.heap.size
    · rw [ext_old hl]
      rcases hi j hj with hh | hh
      · exact hs.tg j hh
      · omega
    · exact ext_new (by omega)
  · by_cases hroom' : l + m ≤ c
    · obtain ⟨e1, e2⟩ := hroom hroom'
      subst e1 e2
      exact hs'.shrink hs.sl.1
    · exact hs.sl.kp0 (hgrow (by omega)).2
/-- .. or one whose room has been cut off. -/
theorem app_bothQ {t e ty : TypeId} {z : Value} {s by_ : Nat} (hr : ElemRow P t e z s by_) {w : World} {ow : Nat → Nat} {a : Option Addr} {l c : Nat} {xs : List Value} {u : Nat} (hs : SlQ w ow e s a l c xs u)
    {a2 : Option Addr} {m c2 : Nat} {news : List Value} (hn : Rd w a2 news) (hm : news.length = m * s) (hm0 : 0 < m) (h2 : a2 = none → m = 0) (h1 : ∀ v ∈ news, v.oneCell' = true)
    (h63 : l + m ≤ 9223372036854775807) (hb : (l + m) * by_ ≤ 140737488355328) {K : Value → World → Prop}
    (h : ∀ a' c' w', SlT w' (ext ow w.heap.size u) e s a' (l + m) c' (xs ++ news) u → SlQ w' (ext ow w.heap.size u) e s a l c xs u → Kp (Is a) w w' → Fro (fun v => v ≠ u) w ow w' (ext ow w.heap.size u) → K (.slice a' (l + m) c') w') :
    RunF P (Builtin.append_ #[t, t] ty #[.slice a l c, .slice a2 m c2]) w K := by
  rcases hs with hs | ⟨rfl, hl0, c', hs⟩
  · exact app_both hr hs hn hm h2 h1 h63 hb fun a' c' w' x y k f => h a' c' w' x (.inl y) k f
  · obtain ⟨b, cur, ha, _⟩ := hs.sl.addr hl0
    have hrd := hs.sl.rd
    rw [ha] at hrd ⊢
    refine app_clip hr hrd hs.sl.1 hn hm hm0 h2 h63 hb fun c'' w' hs' k' => ?_
    rw [ha] at h
    refine h _ c'' w' ⟨hs', fun j hj => by obtain ⟨_, he, rfl⟩ := hj; cases he; exact ext_new (Nat.le_refl _)⟩ (.inr ⟨rfl, hl0, c', ?_⟩) k'.of_no (Fro.of_kp0 u k')
    rw [← ha]
    exact hs.fr (Fro.of_kp0 (T := fun _ => True) u k') trivial
/-- One of a family made longer. -/
theorem Fam.grow {t e ty : TypeId} {z : Value} {s by_ base : Nat} (hr : ElemRow P t e z s by_) {w : World} {ow : Nat → Nat} {G M : List SI} {C D : Nat → List Value} (hG : Fam w ow e s base G C) (hM : Fam w ow e s base M D) {k : Nat} (hk : k < G.length) (hMk : M.length = k)
    {a2 : Option Addr} {m c2 : Nat} {news : List Value} (hn : Rd w a2 news) (hm : news.length = m * s) (hm0 : 0 < m) (h2 : a2 = none → m = 0) (h1 : ∀ v ∈ news, v.oneCell' = true)
    (h63 : (G[k]).l + m ≤ 9223372036854775807) (hb : ((G[k]).l + m) * by_ ≤ 140737488355328) {K : Value → World → Prop}
    (h : ∀ a' c' w' ow', Fam w' ow' e s base G C → Fam w' ow' e s base (M ++ [⟨a', (G[k]).l + m, c'⟩]) (fun j => if j = k then C k ++ news else D j) → Kp (Is (G[k]).a) w w' → Fro (fun v => v ≠ base + k) w ow w' ow' → K (.slice a' ((G[k]).l + m) c') w') :
    RunF P (Builtin.append_ #[t, t] ty #[.slice (G[k]).a (G[k]).l (G[k]).c, .slice a2 m c2]) w K := by
  refine app_bothQ hr (hG k hk) hn hm hm0 h2 h1 h63 hb fun a' c' w' hs' ho' k' f' => ?_
  refine h a' c' w' (ext ow w.heap.size (base + k)) (fun j hj => ?_) ?_ k' f'
  · by_cases hjk : j = k
    · subst hjk; exact ho'
    · exact (hG j hj).fr f' (by omega)
  · have hM' := hM.fr f' (fun j hj => by omega)
    have := hM'.snoc (x := ⟨a', (G[k]).l + m, c'⟩) (xs := C k ++ news) (by rw [hMk]; exact hs'.q)
    rwa [hMk] at this
end

/-- An owner is changed. -/
theorem SlT.retag {w : World} {ow : Nat → Nat} {e : TypeId} {s l c t : Nat} {a : Option Addr} {xs : List Value} (h : SlT w ow e s a l c xs t) (u : Nat) : SlT w (tag (Is a) u ow) e s a l c xs u ∧ Fro (fun x => x ≠ t) w ow w (tag (Is a) u ow) :=
  ⟨⟨h.sl, fun j hj => tag_in hj⟩, ⟨Kp.refl _ _, fun k _ hk => tag_out fun hh => hk (h.tg k hh)⟩⟩
theorem SlT.apart {w : World} {ow : Nat → Nat} {e : TypeId} {s l c t u : Nat} {a : Option Addr} {xs : List Value} {F : Nat → Prop} (h : SlT w ow e s a l c xs t) (hd : ∀ j, Is a j → ¬ F j) : SlT w (tag F u ow) e s a l c xs t := ⟨h.sl, fun j hj => by rw [tag_out (hd j hj)]; exact h.tg j hj⟩
end Go.Proofs.Ytalkkhocljehfaa
