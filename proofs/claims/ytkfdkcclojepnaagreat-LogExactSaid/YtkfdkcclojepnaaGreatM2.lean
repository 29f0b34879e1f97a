/- Memory: one element more on an owned slice; an element of it written. Conditions: none. -/
import Derived.Test.YtkfdkcclojepnaaGreatM
namespace Go.Proofs.YtkfdkcclojepnaaGreat
open Go Go.RowKit
section
variable {P : Program}
theorem push_own {t e ty : TypeId} {z : Value} {by_ : Nat} (hr : ElemRow P t e z 1 by_) {w : World} {a : Option Addr} {l c : Nat} {xs : List Value} (hs : Sl w e 1 a l c xs) {v : Value} (hv : v.oneCell' = true)
    (h63 : l + 1 ≤ 9223372036854775807) (hb : (l + 1) * by_ ≤ 140737488355328) {K : Option Addr → Nat → Nat → World → Prop}
    (h : ∀ a' c' w', Sl w' e 1 a' (l + 1) c' (xs ++ [v]) → Kp (Is a) w w' → (∀ k, Is a' k → Is a k ∨ w.heap.size ≤ k) → K a' (l + 1) c' w') :
    AlF w (.cells #[v] e) fun b w2 => RunF P (Builtin.append_ #[t, t] ty #[.slice a l c, .slice (some ⟨b, 0, none⟩) 1 1]) w2 fun r w3 => ∃ (a2 : Option Addr) (l2 c2 : Nat), r = .slice a2 l2 c2 ∧ K a2 l2 c2 w3 := by
  refine AlF.intro fun b w1 hbe hblk k1 _ => ?_
  have hn : Rd w1 (some ⟨b, 0, none⟩) [v] := Rd.of_blk hblk fun i u hu => by rw [Nat.zero_add, ← Array.getElem?_toList]; exact hu
  refine append_own hr (hs.kp0 k1) hn (by simp) (fun h => by cases h) (fun u hu => by rw [List.mem_singleton] at hu; subst hu; exact hv) h63 hb fun a' c' w' hs' hk hi _ _ => ⟨a', _, c', rfl, ?_⟩
  refine h a' c' w' hs' (k1.trans hk (fun k _ h => h.elim) (fun k _ h => h)) fun k hk2 => ?_
  rcases hi k hk2 with hh | hh
  · exact .inl hh
  · have := k1.size; exact .inr (by omega)
theorem Sl.addr {w : World} {e : TypeId} {s : Nat} {a : Option Addr} {l c : Nat} {xs : List Value} (h : Sl w e s a l c xs) (hl : 0 < l) : ∃ b cur, a = some ⟨b, 0, none⟩ ∧ Blk w b cur e ∧ cur.size = c * s ∧ cur.toList.take (l * s) = xs := by
  rcases h.2.2 with ⟨_, h0⟩ | h
  · have := h.2.1; omega
  · exact h
end
end Go.Proofs.YtkfdkcclojepnaaGreat
