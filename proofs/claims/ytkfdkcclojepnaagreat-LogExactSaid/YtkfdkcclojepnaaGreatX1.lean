/- Texts for LogExact, as one. Conditions: none. -/
import Derived.Test.YtkfdkcclojepnaaGreatM2
import Derived.Test.YtkfdkcclojepnaaGreatNum
import Derived.Test.YtkfdkcclojepnaaGreatG
import Derived.Laws.CopyRow
import Derived.Test.YtkfdkcclojepnaaGreatChecked
import Derived.RangeFuncNested
import Derived.RangeFuncBound
import Derived.RangeFuncCalls
import Derived.RangeFuncLeaves
import Derived.RangeFuncBox
import Derived.Shelf.Abstract
import Derived.Shelf.RegionOpen
import Derived.WalkKit
import Derived.OwnWalkIn
import Derived.TacticsInMore
import Derived.LoopNIn
import Derived.LoopIn
import Derived.ProofKit
import Derived.OpenShut
import Derived.Deep.Slices
import Derived.Lib.SmallJoins
import Derived.ChangeArms
import Derived.SizedLaws
import Derived.Lib.LaidTab
set_option linter.unusedVariables false
set_option linter.unusedSimpArgs false
namespace Go.Proofs.YtkfdkcclojepnaaGreat
open Go Go.RowKit
theorem elemRow {P : Program} {t e : TypeId} {z : Value} {s b : Nat} (ht : P.underlying t = some (.slice e)) (h : (P.info? e).map (fun i => (i.zero, i.size, i.bytes)) = some (some z, s, b)) (hz : z.cells.size = s) : ElemRow P t e z s b := by
  obtain ⟨i, hi, h1, h2, h3⟩ := info_parts h
  exact ⟨ht, i, hi, h1, h2, h3, hz⟩
theorem er_u8 : ElemRow Tryz.prog T_s_uint8 T_uint8 (.int .u8 0) 1 1 := elemRow (by kernel_rfl) (by kernel_rfl) rfl
theorem bvs_len (l : List UInt8) : (bvs l).length = l.length := by simp [bvs]
theorem bvs_app (l r : List UInt8) : bvs (l ++ r) = bvs l ++ bvs r := by simp [bvs]
theorem take_snoc_get {α : Type} (l : List α) (k : Nat) (h : k < l.length) : l.take (k + 1) = l.take k ++ [l[k]] := by
  rw [List.take_succ_eq_append_getElem h]
theorem or_shift {a b i : Nat} (h : a < 2 ^ i) : a ||| b * 2 ^ i = a + b * 2 ^ i := by
  rw [Nat.or_comm, Nat.mul_comm, ← Nat.two_pow_add_eq_or_of_lt h, Nat.add_comm]
theorem Sl.zero {w : World} {e : TypeId} {l c : Nat} {xs : List Value} (h : Sl w e 1 none l c xs) : l = 0 ∧ c = 0 := by
  rcases h.2.2 with ⟨_, h0⟩ | ⟨_, _, h0, _⟩
  · have := h.2.1; omega
  · cases h0
theorem rd_drop {w : World} {g : Option Addr} {bs : List UInt8} {c k : Nat} (h : Rd w g (bvs bs)) (hc : bs.length ≤ c) : Rd w (subA g c k 1) (bvs (bs.drop k)) := by
  intro i v hv
  by_cases hck : c = k
  · have : bs.drop k = [] := List.drop_eq_nil_of_le (by omega)
    rw [this] at hv
    simp [bvs] at hv
  · have hv' : (bvs bs)[k + i]? = some v := by
      simpa [bvs, List.getElem?_map, List.getElem?_drop] using hv
    obtain ⟨b, o, hg, hcell⟩ := h _ _ hv'
    subst hg
    refine ⟨b, o + k, ?_, by rw [Nat.add_assoc]; exact hcell⟩
    unfold subA
    rw [if_neg hck, Option.map_some, Nat.mul_one, add_at]
theorem getD_get {l : List UInt8} {k : Nat} (h : k < l.length) : l.getD k 0 = l[k] := by simp [h]
section
def flatV {α : Type} (f : α → List Value) : List α → List Value
  | [] => []
  | x :: r => f x ++ flatV f r
theorem flatV_len {α : Type} {f : α → List Value} {s : Nat} (hs : ∀ x, (f x).length = s) : ∀ L, (flatV f L).length = L.length * s
  | [] => by simp [flatV]
  | x :: r => by rw [flatV, List.length_append, hs, flatV_len hs r, List.length_cons, Nat.add_mul, Nat.one_mul, Nat.add_comm]
theorem flatV_app {α : Type} (f : α → List Value) : ∀ L M, flatV f (L ++ M) = flatV f L ++ flatV f M
  | [], M => rfl
  | x :: r, M => by rw [List.cons_append, flatV, flatV, flatV_app f r M, List.append_assoc]
theorem flatV_get {α : Type} {f : α → List Value} {s : Nat} (hs : ∀ x, (f x).length = s) : ∀ (L : List α) (i : Nat) (h : i < L.length) (q : Nat), q < s → (flatV f L)[i * s + q]? = (f L[i])[q]?
  | [], i, h, _, _ => by simp at h
  | x :: r, 0, h, q, hq => by rw [flatV, Nat.zero_mul, Nat.zero_add, List.getElem?_append_left (by rw [hs]; exact hq)]; rfl
  | x :: r, i + 1, h, q, hq => by
    have h1 : (i + 1) * s + q = (f x).length + (i * s + q) := by rw [hs, Nat.add_mul, Nat.one_mul]; omega
    rw [flatV, h1, List.getElem?_append_right (by omega), Nat.add_sub_cancel_left, flatV_get hs r i (by simpa using h) q hq]
    rfl
theorem flatV_one {α : Type} {f : α → List Value} (h1 : ∀ x, ∀ u ∈ f x, u.oneCell' = true) : ∀ L, ∀ u ∈ flatV f L, u.oneCell' = true
  | [], u, hu => by cases hu
  | x :: r, u, hu => by
    rw [flatV, List.mem_append] at hu
    rcases hu with hu | hu
    · exact h1 x u hu
    · exact flatV_one h1 r u hu
theorem rd_cells {w : World} {b : Nat} {T : TypeId} {xs : List Value} {cs : Array Value} (h : Blk w b cs T) (hc : cs.toList = xs) : Rd w (some ⟨b, 0, none⟩) xs :=
  Rd.of_blk h fun i v hv => by rw [Nat.zero_add, ← Array.getElem?_toList, hc]; exact hv
theorem StF.at {w : World} {b i : Nat} {ad : Addr} {cs : Array Value} {T : TypeId} {v : Value} {K : World → Prop} (had : ad = ⟨b, i, none⟩) (hb : Blk w b cs T) (hi : i < cs.size)
    (h : ∀ w', Blk w' b (cs.setIfInBounds i v) T → Kp (fun k => k = b) w w' → w'.heap.size = w.heap.size → K w') : StF w ad v K := by
  subst had
  exact StF.intro hb hi h
theorem add2_at (b n m : Nat) : Addr.add (Addr.add ⟨b, 0, none⟩ n) m = ⟨b, 0 + n + m, none⟩ := by rw [add_at, add_at]
theorem kp_blk {w w1 w2 : World} {b : Nat} (k : Kp no w w1) (h : w.heap.size ≤ b) (k' : Kp (fun j => j = b) w1 w2) : Kp no w w2 := k.trans k' (fun _ _ h => h) fun j hj hh => by omega
theorem is_none {k : Nat} (h : Is none k) : False := by obtain ⟨ad, h0, _⟩ := h; cases h0
theorem make_u8 {w : World} {n : Nat} (hn : n ≤ 70368744177664) {K : Value → World → Prop}
    (h : ∀ b w' cur, Blk w' b cur T_uint8 → cur.toList = bvs (List.replicate n 0) → Kp no w w' → b = w.heap.size → K (.slice (some ⟨b, 0, none⟩) n n) w') :
    RunF Tryz.prog (Instr.makeSlice T_s_uint8 (.int .i64 (n : Int)) (.int .i64 (n : Int))) w K := by
  obtain ⟨ht, i, hi, hz, hs, hb, _⟩ := er_u8
  have hrun := run_make (P := Tryz.prog) w T_s_uint8 T_uint8 i (.int .u8 0) ht hi hz .i64 .i64 (n : Int) (n : Int) (by omega) (Int.le_refl _) (by rw [hb]; omega) (by omega)
  rw [Int.toNat_natCast] at hrun
  refine ⟨_, _, hrun, AlF.intro (K := fun b w' => K (.slice (some ⟨b, 0, none⟩) n n) w') fun b w' hb hblk k _ => h b w' _ hblk ?_ k hb⟩
  rw [hs, Nat.mul_one]
  apply List.ext_getElem?
  intro j
  simp only [madeCells, Array.toList_map, Array.toList_range, List.getElem?_map, bvs, List.map_replicate, List.getElem?_replicate]
  by_cases hj : j < n
  · rw [List.getElem?_range hj, if_pos hj]
    simp [Value.cells, Nat.mod_one, bv]
  · rw [List.getElem?_eq_none (by simpa using hj), if_neg hj]
    rfl
structure Fro (T : Nat → Prop) (w : World) (ow : Nat → Nat) (w' : World) (ow' : Nat → Nat) : Prop where
  kp : Kp (fun k => ¬ T (ow k)) w w'
  ag : ∀ k, k < w.heap.size → T (ow k) → ow' k = ow k
theorem Fro.trans {T : Nat → Prop} {w w1 w2 : World} {ow ow1 ow2 : Nat → Nat} (h : Fro T w ow w1 ow1) (h' : Fro T w1 ow1 w2 ow2) : Fro T w ow w2 ow2 := by
  refine ⟨h.kp.trans h'.kp (fun _ _ h => h) fun k hk hn ht => hn (by rw [h.ag k hk ht]; exact ht), fun k hk ht => ?_⟩
  have h1 := h.ag k hk ht
  rw [h'.ag k (by have := h.kp.size; omega) (by rw [h1]; exact ht), h1]
theorem Fro.mono {T T' : Nat → Prop} {w w' : World} {ow ow' : Nat → Nat} (h : Fro T w ow w' ow') (ht : ∀ t, T' t → T t) : Fro T' w ow w' ow' :=
  ⟨h.kp.mono fun k _ hn ht' => hn (ht _ ht'), fun k hk h1 => h.ag k hk (ht _ h1)⟩
def ext (ow : Nat → Nat) (n t : Nat) : Nat → Nat := fun k => if k < n then ow k else t
theorem ext_old {ow : Nat → Nat} {n t k : Nat} (h : k < n) : ext ow n t k = ow k := by unfold ext; rw [if_pos h]
theorem ext_new {ow : Nat → Nat} {n t k : Nat} (h : n ≤ k) : ext ow n t k = t := by unfold ext; rw [if_neg (by omega)]
theorem Fro.of_kp {T S : Nat → Prop} {w w' : World} {ow : Nat → Nat} (t : Nat) (k : Kp S w w') (hs : ∀ b, b < w.heap.size → S b → ¬ T (ow b)) : Fro T w ow w' (ext ow w.heap.size t) :=
  ⟨k.mono fun b hb h => hs b hb h, fun b hb _ => ext_old hb⟩
theorem Fro.of_kp0 {T : Nat → Prop} {w w' : World} {ow : Nat → Nat} (t : Nat) (k : Kp no w w') : Fro T w ow w' (ext ow w.heap.size t) := Fro.of_kp t k fun _ _ h => h.elim
theorem Fro.of_kp' {T S : Nat → Prop} {w w' : World} {ow : Nat → Nat} (k : Kp S w w') (hs : ∀ b, b < w.heap.size → S b → ¬ T (ow b)) : Fro T w ow w' ow :=
  ⟨k.mono fun b hb h => hs b hb h, fun b hb _ => rfl⟩
def Tg (ow : Nat → Nat) (t : Nat) (F : Nat → Prop) : Prop := ∀ k, F k → ow k = t
theorem Tg.fr {T F : Nat → Prop} {w w' : World} {ow ow' : Nat → Nat} {t : Nat} (h : Tg ow t F) (f : Fro T w ow w' ow') (ht : T t) (hlt : ∀ k, F k → k < w.heap.size) : Tg ow' t F := fun k hk => by
  have := h k hk
  rw [f.ag k (hlt k hk) (by rw [this]; exact ht), this]
structure Old (w0 w : World) (ow : Nat → Nat) : Prop where
  kp : Kp no w0 w
  z : ∀ k, k < w0.heap.size → ow k = 0
theorem Old.fr {T : Nat → Prop} {w0 w w' : World} {ow ow' : Nat → Nat} (h : Old w0 w ow) (f : Fro T w ow w' ow') (ht : T 0) : Old w0 w' ow' := by
  refine ⟨h.kp.trans f.kp (fun _ _ h => h) fun k hk hn => (hn (by rw [h.z k hk]; exact ht)).elim, fun k hk => ?_⟩
  have := h.z k hk
  rw [f.ag k (by have := h.kp.size; omega) (by rw [this]; exact ht), this]
open Classical in
noncomputable def tag (F : Nat → Prop) (t : Nat) (ow : Nat → Nat) : Nat → Nat := fun k => if F k then t else ow k
theorem tag_in {F : Nat → Prop} {t : Nat} {ow : Nat → Nat} {k : Nat} (h : F k) : tag F t ow k = t := by unfold tag; rw [if_pos h]
theorem tag_out {F : Nat → Prop} {t : Nat} {ow : Nat → Nat} {k : Nat} (h : ¬ F k) : tag F t ow k = ow k := by unfold tag; rw [if_neg h]
structure SlT (w : World) (ow : Nat → Nat) (e : TypeId) (s : Nat) (a : Option Addr) (l c : Nat) (xs : List Value) (t : Nat) : Prop where
  sl : Sl w e s a l c xs
  tg : Tg ow t (Is a)
section
variable {T : Nat → Prop} {w w' : World} {ow ow' : Nat → Nat}
theorem SlT.fr {e : TypeId} {s : Nat} {a : Option Addr} {l c : Nat} {xs : List Value} {t : Nat} (h : SlT w ow e s a l c xs t) (f : Fro T w ow w' ow') (ht : T t) : SlT w' ow' e s a l c xs t :=
  ⟨h.sl.kp f.kp fun b hb hn => hn (by rw [h.tg b hb]; exact ht), h.tg.fr f ht h.sl.lt⟩
theorem blk_fr {b : Nat} {cs : Array Value} {X : TypeId} {t : Nat} (h : Blk w b cs X) (ht : ow b = t) (f : Fro T w ow w' ow') (hT : T t) : Blk w' b cs X ∧ ow' b = t :=
  ⟨f.kp.blk h fun hn => hn (by rw [ht]; exact hT), by rw [f.ag b h.lt (by rw [ht]; exact hT), ht]⟩
end
theorem Fro.new {T : Nat → Prop} {w w' : World} {ow ow' : Nat → Nat} (k : Kp no w w') (h : ∀ b, b < w.heap.size → ow' b = ow b) : Fro T w ow w' ow' := ⟨k.of_no, fun b hb _ => h b hb⟩
section
variable {P : Program}
theorem app_c {t e ty : TypeId} {z : Value} {s by_ : Nat} (hr : ElemRow P t e z s by_) {w : World} {ow : Nat → Nat} {a : Option Addr} {l c : Nat} {xs : List Value} {u : Nat} (hs : SlT w ow e s a l c xs u)
    {a2 : Option Addr} {m c2 : Nat} {news : List Value} (hn : Rd w a2 news) (hm : news.length = m * s) (h2 : a2 = none → m = 0) (h1 : ∀ v ∈ news, v.oneCell' = true)
    (h63 : l + m ≤ 9223372036854775807) (hb : (l + m) * by_ ≤ 140737488355328) {K : Value → World → Prop}
    (h : ∀ a' c' w', SlT w' (ext ow w.heap.size u) e s a' (l + m) c' (xs ++ news) u → Kp (Is a) w w' → Fro (fun v => v ≠ u) w ow w' (ext ow w.heap.size u) → K (.slice a' (l + m) c') w') :
    RunF P (Builtin.append_ #[t, t] ty #[.slice a l c, .slice a2 m c2]) w K := by
  refine append_own hr hs.sl hn hm h2 h1 h63 hb fun a' c' w' hs' k' hi _ _ => ?_
  refine h a' c' w' ⟨hs', fun j hj => ?_⟩ k' (Fro.of_kp u k' fun b _ hb' hne => hne (hs.tg b hb'))
  by_cases hl : j < w.heap.size
  · rw [ext_old hl]
    rcases hi j hj with hh | hh
    · exact hs.tg j hh
    · omega
  · exact ext_new (by omega)
end
theorem Sl.putv {w : World} {e : TypeId} {s : Nat} {b l c i : Nat} {xs : List Value} (h : Sl w e s (some ⟨b, 0, none⟩) l c xs) (hi : i < l * s) {v : Value} {ad : Addr} (had : ad = ⟨b, i, none⟩) {K : World → Prop}
    (hk : ∀ w', Sl w' e s (some ⟨b, 0, none⟩) l c (xs.set i v) → Kp (Is (some ⟨b, 0, none⟩)) w w' → w'.heap.size = w.heap.size → K w') : StF w ad v K := by
  obtain ⟨h1, h2, h3⟩ := h
  rcases h3 with ⟨h3, _⟩ | ⟨b', cur, ha, hblk, hsz, htk⟩
  · cases h3
  cases ha
  have hls : l * s ≤ c * s := Nat.mul_le_mul_right _ h2
  refine StF.at had hblk (by omega) fun w' hb' k' s' => hk w' ⟨by rw [List.length_set]; exact h1, h2, .inr ⟨b, _, rfl, hb', by simpa using hsz, ?_⟩⟩ (k'.mono fun k _ hkb => ⟨_, rfl, hkb.symm⟩) s'
  rw [← htk, Array.toList_setIfInBounds, List.take_set]
theorem slt_put {w : World} {ow : Nat → Nat} {e : TypeId} {a : Option Addr} {l c i t b o : Nat} {xs : List Value} (h : SlT w ow e 1 a l c xs t) (ha : a = some ⟨b, o, none⟩) (hi : i < l) {v : Value} {ad : Addr} (had : ad = ⟨b, o + i, none⟩) {K : World → Prop}
    (hk : ∀ w', SlT w' ow e 1 a l c (xs.set i v) t → Fro (fun u => u ≠ t) w ow w' ow → K w') : StF w ad v K := by
  obtain ⟨b', cur, ha', _⟩ := h.sl.addr (by omega)
  rw [ha'] at ha
  cases ha
  have hs := h.sl
  have ht := h.tg
  rw [ha'] at hs ht hk
  refine hs.putv (by omega) (by rw [had, Nat.zero_add]) fun w' hs' k' s' => hk w' ⟨hs', ht⟩ (Fro.of_kp' k' fun b' _ hb' hne => hne (ht b' hb'))
theorem bvs_set (l : List UInt8) (i : Nat) (x : UInt8) : (bvs l).set i (bv x) = bvs (l.set i x) := by simp [bvs, List.map_set]
theorem slt_nil (w : World) (ow : Nat → Nat) (e : TypeId) (s t : Nat) : SlT w ow e s none 0 0 [] t := ⟨Sl.nil w e s, fun j hj => by obtain ⟨_, hh, _⟩ := hj; cases hh⟩
theorem sl_some {w : World} {e : TypeId} {a : Option Addr} {l c : Nat} {xs : List Value} (h : Sl w e 1 a l c xs) (hl : 0 < l) : a = none → l = 0 := fun h0 => by
  obtain ⟨b, cur, ha, _⟩ := h.addr hl
  rw [h0] at ha
  cases ha
end
def ovr (l : List UInt8) (i : Nat) (x : List UInt8) : List UInt8 := l.take i ++ x ++ l.drop (i + x.length)
theorem ovr_len {l x : List UInt8} {i : Nat} (h : i + x.length ≤ l.length) : (ovr l i x).length = l.length := by
  simp [ovr]; omega
theorem ovr_nil (l : List UInt8) (i : Nat) : ovr l i [] = l := by simp [ovr]
theorem ovr_get {l x : List UInt8} {i k : Nat} (h : i + x.length ≤ l.length) : (ovr l i x)[k]? = if i ≤ k ∧ k < i + x.length then x[k - i]? else l[k]? := by
  unfold ovr
  by_cases h1 : k < i
  · rw [if_neg (by omega), List.append_assoc, List.getElem?_append_left (by simp; omega), List.getElem?_take, if_pos h1]
  · by_cases h2 : k < i + x.length
    · rw [if_pos ⟨by omega, h2⟩, List.append_assoc, List.getElem?_append_right (by simp; omega), List.getElem?_append_left (by simp; omega)]
      congr 1
      simp
      omega
    · rw [if_neg (by omega), List.append_assoc, List.getElem?_append_right (by simp; omega), List.getElem?_append_right (by simp; omega), List.getElem?_drop]
      congr 1
      simp
      omega
theorem ovr_set {l x : List UInt8} {i : Nat} {c : UInt8} (h : i + x.length < l.length) : (ovr l i x).set (i + x.length) c = ovr l i (x ++ [c]) := by
  apply List.ext_getElem?
  intro k
  rw [List.getElem?_set, ovr_get (by omega), ovr_get (by simp; omega), ovr_len (by omega)]
  by_cases h1 : i + x.length = k
  · subst h1
    rw [if_pos rfl, if_pos h, if_pos (by simp)]
    simp
  · rw [if_neg h1]
    by_cases h2 : i ≤ k ∧ k < i + x.length
    · rw [if_pos h2, if_pos (by simp; omega), List.getElem?_append_left (by omega)]
    · rw [if_neg h2, if_neg (by simp; omega)]
structure Dv where
  img : List UInt8
  q : List (Int × List UInt8)
  step : Int
  keep : List Nat
  torn : Int
  off : Int
  down : Bool
  calls : Int
def Dv.n (v : Dv) : Nat := v.img.length / 512
structure Dv.Ok (v : Dv) : Prop where
  n1 : 1 ≤ v.n
  n2 : v.n ≤ 8192
  len : v.img.length = v.n * 512
  q : ∀ p ∈ v.q, 0 ≤ p.1 ∧ p.1 < (v.n : Int) ∧ p.2.length = 512
  step : 0 ≤ v.step ∧ v.step ≤ 9223372036854775807
  keep : ∀ x ∈ v.keep, x < 18446744073709551616
def keptN (keep : List Nat) (k : Nat) : Bool := decide (k / 64 < keep.length) && decide ((keep.getD (k / 64) 0) / 2 ^ (k % 64) % 2 = 1)
def clampN (off : Int) : Nat := min off.toNat 512
def fallL (keep : List Nat) (torn off : Int) : Nat → List (Int × List UInt8) → List UInt8 → List UInt8
  | _, [], img => img
  | k, p :: r, img => fallL keep torn off (k + 1) r (if keptN keep k then ovr img (p.1.toNat * 512) p.2 else if (k : Int) = torn then ovr img (p.1.toNat * 512) (p.2.take (clampN off)) else img)
def syncL : List (Int × List UInt8) → List UInt8 → List UInt8
  | [], img => img
  | p :: r, img => syncL r (ovr img (p.1.toNat * 512) p.2)
def readL (i : Int) : List (Int × List UInt8) → List UInt8 → List UInt8
  | [], b => b
  | p :: r, b => readL i r (if p.1 = i then p.2 else b)
def Dv.fall (v : Dv) (keep : List Nat) (torn off : Int) : Dv := { v with img := fallL keep torn off 0 v.q v.img, q := [], step := 0, keep := [], torn := 0, off := 0, down := true }
def Dv.bump (v : Dv) : Dv := { v with calls := IntKind.wrap .i64 (v.calls + 1), step := if v.step = 0 then 0 else v.step - 1 }
def Dv.add (v : Dv) (i : Int) (b : List UInt8) : Dv := { v with q := v.q ++ [(i, b)] }
def Dv.synced (v : Dv) : Dv := { v with img := syncL v.q v.img, q := [] }
def Dv.sect (v : Dv) (i : Nat) : List UInt8 := (v.img.drop (i * 512)).take 512
def Dv.there (v : Dv) (i : Int) : Prop := 0 ≤ i ∧ i < (v.n : Int)
instance (v : Dv) (i : Int) : Decidable (v.there i) := inferInstanceAs (Decidable (_ ∧ _))
def Dv.read (v : Dv) (i : Int) : List UInt8 × Nat := if v.down then ([], 40) else if ¬ v.there i then ([], 41) else (readL i v.q (v.sect i.toNat), 0)
def Dv.write (v : Dv) (i : Int) (b : List UInt8) : Nat × Dv :=
  if v.down then (40, v) else if ¬ v.there i then (41, v) else if b.length ≠ 512 then (42, v) else if v.step = 1 then (40, (v.bump.add i b).fall v.keep v.torn v.off) else (0, v.bump.add i b)
def Dv.sync (v : Dv) : Nat × Dv := if v.down then (40, v) else if v.step = 1 then (40, v.bump.fall v.keep v.torn v.off) else (0, v.bump.synced)
def Dv.arm (v : Dv) (step : Int) (keep : List Nat) (torn off : Int) : Nat × Dv := if v.down then (40, v) else if step < 0 then (4, v) else (0, { v with step := step, keep := keep, torn := torn, off := off })
def Dv.crash (v : Dv) (keep : List Nat) (torn off : Int) : Nat × Dv := if v.down then (40, v) else (0, v.fall keep torn off)
def Dv.up (v : Dv) : Dv := { v with down := false, step := 0 }
def Dv.new (n : Nat) : Dv := ⟨List.replicate (n * 512) 0, [], 0, [], 0, 0, false, 0⟩
def Dv.load (img : List UInt8) : Dv := ⟨img, [], 0, [], 0, 0, false, 0⟩
theorem lay_len {img b : List UInt8} {n : Nat} (h : img.length = n * 512) {i : Int} (h0 : 0 ≤ i) (h1 : i < (n : Int)) (hb : b.length ≤ 512) : (ovr img (i.toNat * 512) b).length = n * 512 := by
  rw [ovr_len, h]
  have : i.toNat + 1 ≤ n := by omega
  omega
theorem fallL_len (keep : List Nat) (torn off : Int) (n : Nat) : ∀ (q : List (Int × List UInt8)) (k : Nat) (img : List UInt8), img.length = n * 512 → (∀ p ∈ q, 0 ≤ p.1 ∧ p.1 < (n : Int) ∧ p.2.length = 512) → (fallL keep torn off k q img).length = n * 512
  | [], _, _, h, _ => h
  | p :: r, k, img, h, hq => by
    have hp := hq p (by simp)
    rw [fallL]
    refine fallL_len keep torn off n r (k + 1) _ ?_ fun x hx => hq x (by simp [hx])
    split
    · exact lay_len h hp.1 hp.2.1 (by omega)
    · split
      · exact lay_len h hp.1 hp.2.1 (by simp; omega)
      · exact h
theorem syncL_len (n : Nat) : ∀ (q : List (Int × List UInt8)) (img : List UInt8), img.length = n * 512 → (∀ p ∈ q, 0 ≤ p.1 ∧ p.1 < (n : Int) ∧ p.2.length = 512) → (syncL q img).length = n * 512
  | [], _, h, _ => h
  | p :: r, img, h, hq => by
    have hp := hq p (by simp)
    rw [syncL]
    exact syncL_len n r _ (lay_len h hp.1 hp.2.1 (by omega)) fun x hx => hq x (by simp [hx])
theorem Dv.n_of {v : Dv} {n : Nat} (h : v.img.length = n * 512) : v.n = n := by unfold Dv.n; omega
theorem Dv.Ok.fall {v : Dv} (h : v.Ok) (keep : List Nat) (torn off : Int) : (v.fall keep torn off).Ok := by
  have hl := fallL_len keep torn off v.n v.q 0 v.img h.len h.q
  have hn : (v.fall keep torn off).n = v.n := Dv.n_of hl
  refine ⟨by rw [hn]; exact h.n1, by rw [hn]; exact h.n2, by rw [hn]; exact hl, fun p hp => absurd hp (by simp [Dv.fall]), ⟨Int.le_refl _, by simp [Dv.fall]⟩, fun x hx => absurd hx (by simp [Dv.fall])⟩
theorem Dv.Ok.bump {v : Dv} (h : v.Ok) : v.bump.Ok := by
  refine ⟨h.n1, h.n2, h.len, h.q, ?_, h.keep⟩
  have := h.step
  show 0 ≤ (if v.step = 0 then (0 : Int) else v.step - 1) ∧ (if v.step = 0 then (0 : Int) else v.step - 1) ≤ _
  split <;> omega
theorem Dv.Ok.add {v : Dv} (h : v.Ok) {i : Int} {b : List UInt8} (hi : v.there i) (hb : b.length = 512) : (v.add i b).Ok := by
  refine ⟨h.n1, h.n2, h.len, fun p hp => ?_, h.step, h.keep⟩
  rcases List.mem_append.1 hp with hp | hp
  · exact h.q p hp
  · rw [List.mem_singleton] at hp
    subst hp
    exact ⟨hi.1, hi.2, hb⟩
theorem Dv.Ok.synced {v : Dv} (h : v.Ok) : v.synced.Ok := by
  have hl := syncL_len v.n v.q v.img h.len h.q
  have hn : v.synced.n = v.n := Dv.n_of hl
  exact ⟨by rw [hn]; exact h.n1, by rw [hn]; exact h.n2, by rw [hn]; exact hl, fun p hp => absurd hp (by simp [Dv.synced]), h.step, h.keep⟩
theorem Dv.Ok.write {v : Dv} (h : v.Ok) (i : Int) (b : List UInt8) : (v.write i b).2.Ok := by
  unfold Dv.write
  split
  · exact h
  · split
    · exact h
    · rename_i hi
      split
      · exact h
      · rename_i hb
        have ha := h.bump.add (i := i) (b := b) (Decidable.not_not.1 hi) (Decidable.not_not.1 hb)
        split
        · exact ha.fall _ _ _
        · exact ha
theorem Dv.Ok.sync {v : Dv} (h : v.Ok) : v.sync.2.Ok := by
  unfold Dv.sync
  split
  · exact h
  · split
    · exact h.bump.fall _ _ _
    · exact h.bump.synced
theorem Dv.Ok.arm {v : Dv} (h : v.Ok) {step : Int} {keep : List Nat} (torn off : Int) (hs : step ≤ 9223372036854775807) (hk : ∀ x ∈ keep, x < 18446744073709551616) : (v.arm step keep torn off).2.Ok := by
  unfold Dv.arm
  split
  · exact h
  · split
    · exact h
    · exact ⟨h.n1, h.n2, h.len, h.q, ⟨by simp only; omega, hs⟩, hk⟩
theorem Dv.Ok.up {v : Dv} (h : v.Ok) : v.up.Ok := ⟨h.n1, h.n2, h.len, h.q, ⟨Int.le_refl _, by simp [Dv.up]⟩, h.keep⟩
theorem Dv.Ok.load {img : List UInt8} {n : Nat} (h : img.length = n * 512) (h1 : 1 ≤ n) (h2 : n ≤ 8192) : (Dv.load img).Ok := by
  have hn : (Dv.load img).n = n := Dv.n_of h
  exact ⟨by rw [hn]; exact h1, by rw [hn]; exact h2, by rw [hn]; exact h, fun p hp => absurd hp (by simp [Dv.load]), ⟨Int.le_refl _, by simp [Dv.load]⟩, fun x hx => absurd hx (by simp [Dv.load])⟩
theorem Dv.new_load (n : Nat) : Dv.new n = Dv.load (List.replicate (n * 512) 0) := rfl
def u64v (n : Nat) : Value := .int .u64 (n : Int)
theorem er_u64 : ElemRow Tryz.prog T_s_uint64 T_uint64 (.int .u64 0) 1 8 := elemRow (by kernel_rfl) (by kernel_rfl) rfl
theorem er_pd : ElemRow Tryz.prog T_s_api_Pending T_api_Pending (.agg #[.int .i64 0, .slice none 0 0]) 2 32 := elemRow (by kernel_rfl) (by kernel_rfl) rfl
theorem setRow_blk {w : World} {b : Nat} {cs new : Array Value} {T : TypeId} (hb : Blk w b cs T) : Blk (w.setRow b new) b new T := setRow_heap w b cs new T (0, 0) hb
theorem Kp.setRow {w : World} {b : Nat} {new : Array Value} : Kp (fun k => k = b) w (w.setRow b new) :=
  ⟨rfl, rfl, rfl, by simp [World.setRow], fun k _ hn => by
    simp only [World.setRow, Array.getElem?_modify]
    rw [if_neg fun h => hn h.symm]⟩
theorem subA_lt {b o c : Nat} (h : o < c) : subA (some ⟨b, 0, none⟩) c o 1 = some ⟨b, o, none⟩ := by
  unfold subA
  rw [if_neg (by omega), Option.map_some, add_at]
  simp
theorem bvs_take (l : List UInt8) (n : Nat) : (bvs l).take n = bvs (l.take n) := by simp [bvs]
theorem bvs_drop (l : List UInt8) (n : Nat) : (bvs l).drop n = bvs (l.drop n) := by simp [bvs]
theorem bvs_nil : bvs [] = [] := rfl
theorem copy_own {w : World} {ow : Nat → Nat} {a sa : Option Addr} {l c o dl dc sc t : Nat} {img bs : List UInt8} (h : SlT w ow T_uint8 1 a l c (bvs img) t) (hs : Rd w sa (bvs bs)) (hs0 : sa = none → bs = []) (hd : bs.length ≤ dl) (ho : o + dl ≤ l) {K : Value → World → Prop}
    (hK : ∀ w', SlT w' ow T_uint8 1 a l c (bvs (ovr img o bs)) t → Kp (Is a) w w' → Fro (fun u => u ≠ t) w ow w' ow → K (.int .i64 (bs.length : Int)) w') :
    RunF Tryz.prog (Builtin.copy_ #[T_s_uint8, T_s_uint8] T_int #[.slice (subA a c o 1) dl dc, .slice sa bs.length sc]) w K := by
  obtain ⟨hsl, htg⟩ := h
  have hil : img.length = l := by have := hsl.1; rw [bvs_len] at this; omega
  by_cases hb0 : bs = []
  · subst hb0
    refine ⟨_, _, run_copy_none (P := Tryz.prog) w T_s_uint8 T_s_uint8 T_int T_uint8 _ _ dl dc 0 sc (by kernel_rfl) (by kernel_rfl) (Nat.zero_min _), ?_⟩
    refine hK w ⟨by rw [ovr_nil]; exact hsl, htg⟩ (Kp.refl _ _) ⟨Kp.refl _ _, fun _ _ _ => rfl⟩
  · have hbl : 0 < bs.length := by
      cases bs with
      | nil => exact (hb0 rfl).elim
      | cons => simp
    obtain ⟨b, cur, ha, hblk, hcs, htk⟩ := hsl.addr (by omega)
    obtain ⟨bs', os, hsa, _, hsc⟩ := hs.addr (fun h0 => by have := congrArg List.length h0; rw [bvs_len] at this; simp at this; exact hb0 this)
    have hlc := hsl.2.1
    subst ha
    subst hsa
    rw [subA_lt (by omega)]
    refine ⟨_, _, run_copy_row (P := Tryz.prog) w T_s_uint8 T_s_uint8 T_int T_uint8 b o dl dc ⟨bs', os, none⟩ bs.length sc cur T_uint8 (bvs bs) (by kernel_rfl) (by kernel_rfl) hblk (by rw [bvs_len]; exact (Nat.min_eq_left hd).symm) (fun j v hv => by rw [add_at]; exact hsc j v hv) (by rw [bvs_len]; omega) bvs_one, ?_⟩
    have e : goInt (bvs bs).length = .int .i64 (bs.length : Int) := by rw [bvs_len]; rfl
    rw [e]
    have kk : Kp (Is (some ⟨b, 0, none⟩)) w (w.setRow b (cur.toList.take o ++ bvs bs ++ cur.toList.drop (o + (bvs bs).length)).toArray) := Kp.setRow.mono fun k _ hk => ⟨_, rfl, hk.symm⟩
    refine hK _ ⟨⟨by rw [bvs_len, ovr_len (by omega)]; omega, hlc, .inr ⟨b, _, rfl, setRow_blk hblk, ?_, ?_⟩⟩, htg⟩ kk (Fro.of_kp' kk fun k _ hk hne => hne (htg k hk))
    · simp only [List.size_toArray, List.length_append, List.length_take, List.length_drop, Array.length_toList, bvs_len]
      omega
    · have hcl : cur.toList.length = c := by simpa using hcs
      rw [Nat.mul_one] at htk ⊢
      have h1 : cur.toList.take o = bvs (img.take o) := by rw [← bvs_take, ← htk, List.take_take, Nat.min_eq_left (by omega)]
      show List.take l (List.take o cur.toList ++ bvs bs ++ List.drop (o + (bvs bs).length) cur.toList) = _
      rw [h1, bvs_len]
      unfold ovr
      rw [bvs_app, bvs_app, List.take_append, List.take_of_length_le (by simp only [List.length_append, bvs_len, List.length_take]; omega)]
      congr 1
      rw [← bvs_drop, ← htk, List.drop_take]
      congr 1
      simp only [List.length_append, bvs_len, List.length_take]
      omega
theorem clone_c {w : World} {a : Option Addr} {l c : Nat} {bs : List UInt8} {R : Po} (hr : Rd w a (bvs bs)) (hl : bs.length = l) (h0 : a = none → l = 0) (hb : l ≤ 140737488355328)
    (h : ∀ a' c' w', Sl w' T_uint8 1 a' l c' (bvs bs) → Kp no w w' → Fresh w a' → (a = none ↔ a' = none) → R (.returned (.slice a' l c')) w') : GoC Tryz.prog F_bytes_Clone #[.slice a l c] w R := by
  refine S_bytes_Clone ?_
  unfold W_bytes_Clone
  cases a with
  | none =>
    have hl0 := h0 rfl
    subst hl0
    have hbs : bs = [] := List.eq_nil_of_length_eq_zero hl
    subst hbs
    exact h none 0 w (Sl.nil _ _ _) (Kp.refl _ _) (fun k hk => (is_none hk).elim) Iff.rfl
  | some ad =>
    refine cond_f rfl (AlF.intro fun b1 w1 hb1e hb1 k1 s1 => ?_)
    have hs1 : Sl w1 T_uint8 1 (some ⟨b1, 0, none⟩) 0 0 (bvs []) := ⟨rfl, Nat.le_refl _, .inr ⟨b1, #[], rfl, hb1, rfl, rfl⟩⟩
    refine append_own er_u8 hs1 (hr.kp0 k1) (by rw [bvs_len]; omega) (fun h => by cases h) bvs_one (by omega) (by omega) fun a' c' w2 hs2 k2 hi2 hroom hgrow => ⟨_, _, _, rfl, ?_⟩
    rw [Nat.zero_add] at hs2 ⊢
    refine h a' c' w2 (by rw [bvs_nil, List.nil_append] at hs2; exact hs2) (k1.trans k2 (fun _ _ h => h) fun k hk hh => ?_) (fun k hk => ?_) ?_
    · obtain ⟨_, he, rfl⟩ := hh; cases he; simp at hk; omega
    · rcases hi2 k hk with hh | hh
      · obtain ⟨_, he, rfl⟩ := hh; cases he; simp; omega
      · omega
    · refine ⟨fun hh => (by cases hh), fun hh => ?_⟩
      subst hh
      by_cases hlz : l ≤ 0
      · obtain ⟨e1, _⟩ := hroom (by omega)
        cases e1
      · have := hs2.2.2
        rcases this with ⟨_, hc0⟩ | ⟨_, _, he, _⟩
        · have := hs2.2.1; omega
        · cases he
theorem u64_one (l : List Nat) : ∀ u ∈ l.map u64v, u.oneCell' = true := fun u hu => by
  obtain ⟨x, _, rfl⟩ := List.mem_map.1 hu
  rfl
theorem clone64_c {w : World} {a : Option Addr} {l c : Nat} {ks : List Nat} {R : Po} (hr : Rd w a (ks.map u64v)) (hl : ks.length = l) (h0 : a = none → l = 0) (hb : l * 8 ≤ 140737488355328)
    (h : ∀ a' c' w', Sl w' T_uint64 1 a' l c' (ks.map u64v) → Kp no w w' → Fresh w a' → R (.returned (.slice a' l c')) w') : GoC Tryz.prog F_slices_Clone_s_uint64_uint64 #[.slice a l c] w R := by
  refine S_slices_Clone_s_uint64_uint64 ?_
  unfold W_slices_Clone_s_uint64_uint64
  cases a with
  | none =>
    have hl0 := h0 rfl
    subst hl0
    have hbs : ks = [] := List.eq_nil_of_length_eq_zero hl
    subst hbs
    exact h none 0 w (Sl.nil _ _ _) (Kp.refl _ _) (fun k hk => (is_none hk).elim)
  | some ad =>
    refine cond_f rfl (AlF.intro fun b1 w1 hb1e hb1 k1 s1 => ?_)
    have hs1 : Sl w1 T_uint64 1 (some ⟨b1, 0, none⟩) 0 0 [] := ⟨rfl, Nat.le_refl _, .inr ⟨b1, #[], rfl, hb1, rfl, rfl⟩⟩
    refine append_own er_u64 hs1 (hr.kp0 k1) (by simp; omega) (fun h => by cases h) (u64_one ks) (by omega) (by omega) fun a' c' w2 hs2 k2 hi2 hroom hgrow => ⟨_, _, _, rfl, ?_⟩
    rw [Nat.zero_add] at hs2 ⊢
    refine h a' c' w2 (by rw [List.nil_append] at hs2; exact hs2) (k1.trans k2 (fun _ _ h => h) fun k hk hh => ?_) (fun k hk => ?_)
    · obtain ⟨_, he, rfl⟩ := hh; cases he; simp at hk; omega
    · rcases hi2 k hk with hh | hh
      · obtain ⟨_, he, rfl⟩ := hh; cases he; simp; omega
      · omega
structure PD where
  sec : Int
  a : Option Addr
  c : Nat
  bs : List UInt8
def PD.cs (x : PD) : List Value := [.int .i64 x.sec, .slice x.a x.bs.length x.c]
def PD.v (x : PD) : Int × List UInt8 := (x.sec, x.bs)
theorem PD.cs_len (x : PD) : x.cs.length = 2 := rfl
def fP : List PD → List Value := flatV PD.cs
theorem fP_len (L : List PD) : (fP L).length = L.length * 2 := flatV_len PD.cs_len L
structure Dh where
  ia : Option Addr
  ic : Nat
  pa : Option Addr
  pc : Nat
structure DL (w : World) (ow : Nat → Nat) (t : Nat) (H : Dh) (Q : List PD) (v : Dv) : Prop where
  im : SlT w ow T_uint8 1 H.ia v.img.length H.ic (bvs v.img) (t + 1)
  pl : SlT w ow T_api_Pending 2 H.pa Q.length H.pc (fP Q) (t + 2)
  pb : ∀ x ∈ Q, SlT w ow T_uint8 1 x.a x.bs.length x.c (bvs x.bs) (t + 3)
  qv : v.q = Q.map PD.v
  ok : v.Ok
section
variable {T : Nat → Prop} {w w' : World} {ow ow' : Nat → Nat} {t b : Nat} {H : Dh} {Q : List PD} {v : Dv}
theorem DL.fr (h : DL w ow t H Q v) (f : Fro T w ow w' ow') (h1 : T (t + 1)) (h2 : T (t + 2)) (h3 : T (t + 3)) : DL w' ow' t H Q v := ⟨h.im.fr f h1, h.pl.fr f h2, fun x hx => (h.pb x hx).fr f h3, h.qv, h.ok⟩
def Dh.cs (H : Dh) (n : Nat) (v : Dv) (ka : Option Addr) (kc : Nat) : Array Value := #[.slice H.ia v.img.length H.ic, .slice H.pa n H.pc, .int .i64 v.step, .slice ka v.keep.length kc, .int .i64 v.torn, .int .i64 v.off, .bool v.down, .int .i64 v.calls]
structure DP (w : World) (ow : Nat → Nat) (t b : Nat) (H : Dh) (Q : List PD) (ka : Option Addr) (kc : Nat) (v : Dv) : Prop where
  l : DL w ow t H Q v
  hb : Blk w b (H.cs Q.length v ka kc) T_sectors_Device
  bt : ow b = t
  kp : SlT w ow T_uint64 1 ka v.keep.length kc (v.keep.map u64v) (t + 3)
theorem DP.fr {ka : Option Addr} {kc : Nat} (h : DP w ow t b H Q ka kc v) (f : Fro T w ow w' ow') (h0 : T t) (h1 : T (t + 1)) (h2 : T (t + 2)) (h3 : T (t + 3)) : DP w' ow' t b H Q ka kc v :=
  ⟨h.l.fr f h1 h2 h3, (blk_fr h.hb h.bt f h0).1, (blk_fr h.hb h.bt f h0).2, h.kp.fr f h3⟩
theorem Fro.kp0 (k : Kp no w w') : Fro (fun _ => True) w ow w' ow := Fro.new k fun _ _ => rfl
theorem DP.kp0 {ka : Option Addr} {kc : Nat} (h : DP w ow t b H Q ka kc v) (k : Kp no w w') : DP w' ow t b H Q ka kc v := h.fr (Fro.kp0 k) trivial trivial trivial trivial
end
abbrev Td (t : Nat) : Nat → Prop := fun u => u ≠ t ∧ u ≠ t + 1 ∧ u ≠ t + 2
def RdT (w : World) (ow : Nat → Nat) (U : Nat → Prop) (a : Option Addr) (vs : List Value) : Prop := ∀ i v, vs[i]? = some v → ∃ b o, a = some ⟨b, o, none⟩ ∧ w.cell? ⟨b, o + i, none⟩ = some v ∧ U (ow b)
section
variable {T U : Nat → Prop} {w w' : World} {ow ow' : Nat → Nat} {a : Option Addr} {vs : List Value}
theorem RdT.rd (h : RdT w ow U a vs) : Rd w a vs := fun i v hv => by
  obtain ⟨b, o, h1, h2, _⟩ := h i v hv
  exact ⟨b, o, h1, h2⟩
theorem RdT.fr (h : RdT w ow U a vs) (f : Fro T w ow w' ow') (hT : ∀ u, U u → T u) : RdT w' ow' U a vs := fun i v hv => by
  obtain ⟨b, o, h1, h2, h3⟩ := h i v hv
  refine ⟨b, o, h1, f.kp.cell h2 fun hn => hn (hT _ h3), ?_⟩
  rw [f.ag b (cell_lt h2) (hT _ h3)]
  exact h3
theorem RdT.mono {U' : Nat → Prop} (h : RdT w ow U a vs) (hu : ∀ u, U u → U' u) : RdT w ow U' a vs := fun i v hv => by
  obtain ⟨b, o, h1, h2, h3⟩ := h i v hv
  exact ⟨b, o, h1, h2, hu _ h3⟩
theorem SlT.rdT {e : TypeId} {s l c u : Nat} (h : SlT w ow e s a l c vs u) : RdT w ow (fun x => x = u) a vs := fun i v hv => by
  obtain ⟨b, o, h1, h2⟩ := h.sl.rd i v hv
  exact ⟨b, o, h1, h2, h.tg b ⟨_, h1, rfl⟩⟩
theorem Old.rdT {w0 : World} (h : Old w0 w ow) (hr : Rd w0 a vs) : RdT w ow (fun x => x = 0) a vs := fun i v hv => by
  obtain ⟨b, o, h1, h2⟩ := hr i v hv
  exact ⟨b, o, h1, h.kp.cell h2 id, h.z b (cell_lt h2)⟩
end
theorem sectors_c {w : World} {b l ic : Nat} {ia : Option Addr} {R : Po} (hc : w.cell? ⟨b, 0, none⟩ = some (.slice ia l ic)) (hl : l ≤ 140737488355328) (h : R (.returned (.int .i64 ((l / 512 : Nat) : Int))) w) : GoC Tryz.prog F_sectors_Device_Sectors #[.pointer (some ⟨b, 0, none⟩)] w R := by
  refine S_sectors_Device_Sectors ?_
  unfold W_sectors_Device_Sectors
  refine ⟨_, _, _, hc, by decide, ?_⟩
  have e : IntKind.wrap .i64 (Int.tdiv (l : Int) 512) = ((l / 512 : Nat) : Int) := by
    rw [show Int.tdiv (l : Int) 512 = ((l / 512 : Nat) : Int) from rfl]
    exact wrap_i64 (by omega) (by omega)
  rw [e]
  exact h
theorem sector_c {w : World} {b n ic i : Nat} {ia : Option Addr} {R : Po} (hc : w.cell? ⟨b, 0, none⟩ = some (.slice ia (n * 512) ic)) (hl : n ≤ 8192) (hic : n * 512 ≤ ic) (hi : i < n) (h : R (.returned (.slice (subA ia ic (i * 512) 1) 512 (ic - i * 512))) w) :
    GoC Tryz.prog F_sectors_Device_sector #[.pointer (some ⟨b, 0, none⟩), .int .i64 (i : Int)] w R := by
  refine S_sectors_Device_sector ?_
  unfold W_sectors_Device_sector
  have e1 : IntKind.wrap .i64 ((i : Int) * 512) = ((i * 512 : Nat) : Int) := by rw [wrap_i64 (by omega) (by omega)]; omega
  have e2 : IntKind.wrap .i64 ((i : Int) + 1) = ((i + 1 : Nat) : Int) := by rw [wrap_i64 (by omega) (by omega)]; omega
  have e3 : IntKind.wrap .i64 (((i + 1 : Nat) : Int) * 512) = (((i + 1) * 512 : Nat) : Int) := by rw [wrap_i64 (by omega) (by omega)]; omega
  rw [e2, e1, e3]
  refine ⟨_, _, _, hc, ⟨by omega, by omega⟩, ⟨by omega, by simp only [hiOf]; omega⟩, ?_⟩
  rw [Int.toNat_natCast, Int.toNat_natCast, show (i + 1) * 512 - i * 512 = 512 by omega]
  exact h
theorem kept_c {w : World} {a : Option Addr} {c k : Nat} {keep : List Nat} {n1 n2 : Int} {R : Po} (hr : Rd w a (keep.map u64v)) (hlt : ∀ x ∈ keep, x < 18446744073709551616) (hkl : keep.length ≤ 9223372036854775807) (hk : k ≤ 1000000000) (h : ∀ w', Kp no w w' → R (.returned (.bool (keptN keep k))) w') :
    GoC Tryz.prog F_sectors_kept #[.agg #[.slice a keep.length c, .int .i64 n1, .int .i64 n2], .int .i64 (k : Int)] w R := by
  refine S_sectors_kept ?_
  unfold W_sectors_kept
  refine AlF.intro fun b1 w1 hb1e hb1 k1 s1 => ⟨by decide, ?_⟩
  have e1 : IntKind.wrap .i64 (Int.tdiv (k : Int) 64) = ((k / 64 : Nat) : Int) := by
    rw [show Int.tdiv (k : Int) 64 = ((k / 64 : Nat) : Int) from rfl]
    exact wrap_i64 (by omega) (by omega)
  have e2 : Int.tmod (k : Int) 64 = ((k % 64 : Nat) : Int) := rfl
  rw [e1, e2]
  refine ⟨_, _, _, hb1.cell 0, cond_d (fun hlt' => ?_) (fun hge => ?_)⟩
  · have hkk : k / 64 < keep.length := by omega
    refine ⟨_, _, _, hb1.cell 0, by decide, ?_⟩
    obtain ⟨b, o, ha, hcell⟩ := (hr.kp0 k1) (k / 64) (u64v keep[k / 64]) (by simp [hkk])
    refine ⟨by omega, hlt', _, ha, (keep[k / 64] : Int), by rw [Int.toNat_natCast, add_at]; exact hcell, by decide, by omega, ?_⟩
    have hx := hlt _ (List.getElem_mem hkk)
    have e3 : andV .u64 (shrV .u64 (keep[k / 64] : Int) ((k % 64 : Nat) : Int)) 1 = ((keep[k / 64] / 2 ^ (k % 64) % 2 : Nat) : Int) := by
      rw [shrV_nat (by simp only [IntKind.bits]; omega), show (1 : Int) = ((1 : Nat) : Int) from rfl, andV_nat rfl (by simp only [IntKind.bits]; exact Nat.lt_of_le_of_lt (Nat.div_le_self _ _) (by omega)) (by simp only [IntKind.bits]; omega), and_1]
    rw [e3]
    have e4 : (((keep[k / 64] / 2 ^ (k % 64) % 2 : Nat) : Int) == 1) = keptN keep k := by
      unfold keptN
      rw [decide_eq_true hkk, Bool.true_and]
      have : keep.getD (k / 64) 0 = keep[k / 64] := by simp [hkk]
      rw [this]
      rw [Bool.eq_iff_iff, beq_iff_eq, decide_eq_true_eq]
      omega
    rw [e4]
    exact h w1 k1
  · have e4 : keptN keep k = false := by
      unfold keptN
      rw [decide_eq_false (by omega), Bool.false_and]
    have := h w1 k1
    rw [e4] at this
    exact this
theorem c0 {w : World} {b : Nat} {cs : Array Value} {T : TypeId} (h : Blk w b cs T) {v : Value} (hv : cs[0]? = some v) : w.cell? ⟨b, 0, none⟩ = some v := by rw [h.cell]; exact hv
theorem cN {w : World} {b i : Nat} {cs : Array Value} {T : TypeId} (h : Blk w b cs T) {v : Value} (hv : cs[i]? = some v) : w.cell? (Addr.add ⟨b, 0, none⟩ i) = some v := by rw [add_at, h.cell, Nat.zero_add]; exact hv
theorem cNM {w : World} {b i j : Nat} {cs : Array Value} {T : TypeId} (h : Blk w b cs T) {v : Value} (hv : cs[i + j]? = some v) : w.cell? (Addr.add (Addr.add ⟨b, 0, none⟩ i) j) = some v := by rw [add2_at, h.cell, Nat.zero_add]; exact hv
theorem stb {w : World} {ow : Nat → Nat} {b i t : Nat} {ad : Addr} {cs : Array Value} {X : TypeId} {v : Value} {K : World → Prop} (had : ad = ⟨b, i, none⟩) (hb : Blk w b cs X) (ht : ow b = t) (hi : i < cs.size)
    (h : ∀ w', Blk w' b (cs.setIfInBounds i v) X → Fro (fun u => u ≠ t) w ow w' ow → w'.heap.size = w.heap.size → K w') : StF w ad v K :=
  StF.at had hb hi fun w' hb' k' s' => h w' hb' (Fro.of_kp' k' fun b _ hbb hne => hne (by rw [hbb]; exact ht)) s'
theorem add1 (b n : Nat) : Addr.add ⟨b, 0, none⟩ n = ⟨b, n, none⟩ := by rw [add_at, Nat.zero_add]
theorem add2 (b n m : Nat) : Addr.add (Addr.add ⟨b, 0, none⟩ n) m = ⟨b, n + m, none⟩ := by rw [add2_at, Nat.zero_add]
theorem st2 {w : World} {b : Nat} {u0 u1 v0 v1 : Value} {T : TypeId} (hb : Blk w b #[u0, u1] T) {K : World → Prop} (h : ∀ w', Blk w' b #[v0, v1] T → Kp (fun k => k = b) w w' → w'.heap.size = w.heap.size → K w') :
    StF w ⟨b, 0, none⟩ v0 fun w1 => StF w1 (Addr.add ⟨b, 0, none⟩ 1) v1 K :=
  StF.at rfl hb (by simp) fun w1 hb1 k1 s1 => StF.at (add1 b 1) hb1 (by simp) fun w2 hb2 k2 s2 => h w2 hb2 (k1.trans0 k2) (by omega)
theorem pdI {w : World} {a : Option Addr} {Q : List PD} (h : Rd w a (fP Q)) {i : Nat} (hi : i < Q.length) {l : Nat} (hl : Q.length = l) {n : Int} (hn : n = (i : Int)) {K : Int → Option Addr → Nat → Nat → Prop} (hk : K (Q[i]).sec (Q[i]).a (Q[i]).bs.length (Q[i]).c) :
    IdxF a n l fun d => ∃ (n3 : Int) (a3 : Option Addr) (l3 c3 : Nat), (w.cell? (d.add (Int.toNat n * 2)) = some (.int .i64 n3) ∧ w.cell? (Addr.add (d.add (Int.toNat n * 2)) 1) = some (.slice a3 l3 c3) ∧ True) ∧ K n3 a3 l3 c3 := by
  subst hn
  have hne : fP Q ≠ [] := fun h0 => by have := fP_len Q; rw [h0] at this; simp at this; omega
  obtain ⟨b, o, ha, _, hc⟩ := h.addr hne
  have h0 : (fP Q)[i * 2 + 0]? = some (.int .i64 (Q[i]).sec) := by unfold fP; rw [flatV_get PD.cs_len Q i hi 0 (by omega)]; rfl
  have h1 : (fP Q)[i * 2 + 1]? = some (.slice (Q[i]).a (Q[i]).bs.length (Q[i]).c) := by unfold fP; rw [flatV_get PD.cs_len Q i hi 1 (by omega)]; rfl
  refine ⟨by omega, by omega, _, ha, _, _, _, _, ⟨?_, ?_, trivial⟩, hk⟩
  · rw [Int.toNat_natCast, add_at]; exact hc _ _ h0
  · rw [Int.toNat_natCast, add_at, add_at, Nat.add_assoc]; exact hc _ _ h1
section
variable {w w' : World} {ow ow' : Nat → Nat} {t b kc : Nat} {H : Dh} {Q : List PD} {ka : Option Addr} {v : Dv}
theorem DL.bump (h : DL w ow t H Q v) : DL w ow t H Q v.bump := ⟨h.im, h.pl, h.pb, h.qv, h.ok.bump⟩
theorem crashes_c {R : Po} (h : DP w ow t b H Q ka kc v) (hK : ∀ w', DP w' ow t b H Q ka kc v.bump → Fro (fun u => u ≠ t) w ow w' ow → R (.returned (.bool (decide (v.step = 1)))) w') : GoC Tryz.prog F_sectors_Device_crashes #[.pointer (some ⟨b, 0, none⟩)] w R := by
  refine S_sectors_Device_crashes ?_
  unfold W_sectors_Device_crashes
  have hst := h.l.ok.step
  refine ⟨v.calls, cN h.hb rfl, NilF.intro rfl (stb (add1 b 7) h.hb h.bt (by simp [Dh.cs]) fun w1 hb1 f1 s1 => ?_)⟩
  have l1 := h.l.fr f1 (by omega) (by omega) (by omega)
  have kp1 := h.kp.fr f1 (by omega)
  refine ⟨v.step, cN hb1 rfl, cond_eq (fun h0 => ?_) (fun hne => ⟨v.step, cN hb1 rfl, NilF.intro rfl (stb (add1 b 2) hb1 h.bt (by simp [Dh.cs]) fun w2 hb2 f2 s2 => ⟨_, cN hb2 rfl, ?_⟩)⟩)⟩
  · have e : decide (v.step = 1) = false := decide_eq_false (by omega)
    have e2 : v.bump = { v with calls := IntKind.wrap .i64 (v.calls + 1), step := v.step } := by unfold Dv.bump; rw [if_pos h0, h0]
    have := hK w1 ⟨l1.bump, by rw [e2]; exact hb1, h.bt, kp1⟩ f1
    rw [e] at this
    exact this
  · have ew : IntKind.wrap .i64 (v.step - 1) = v.step - 1 := wrap_i64 (by omega) (by omega)
    rw [ew] at hb2 ⊢
    have e : (v.step - 1 == 0) = decide (v.step = 1) := by rw [Bool.eq_iff_iff, beq_iff_eq, decide_eq_true_eq]; omega
    have e2 : v.bump = { v with calls := IntKind.wrap .i64 (v.calls + 1), step := v.step - 1 } := by unfold Dv.bump; rw [if_neg hne]
    rw [e]
    exact hK w2 ⟨(l1.fr f2 (by omega) (by omega) (by omega)).bump, by rw [e2]; exact hb2, h.bt, kp1.fr f2 (by omega)⟩ (f1.trans f2)
end
theorem lay_h {w6 : World} {ow : Nat → Nat} {t b b2 n i ic sc : Nat} {ia sa : Option Addr} {img bs : List UInt8} {K : World → Prop} {R : Po} (him : SlT w6 ow T_uint8 1 ia (n * 512) ic (bvs img) (t + 1)) (hn : n ≤ 8192) (hi : i < n) (hb : w6.cell? ⟨b, 0, none⟩ = some (.slice ia (n * 512) ic))
    (hb2 : Blk w6 b2 #[.int .i64 (i : Int), .slice sa bs.length sc] T_api_Pending) (ht2 : ow b2 ≠ t + 1) (hs : Rd w6 sa (bvs bs)) (hs0 : sa = none → bs = []) (hbl : bs.length ≤ 512)
    (h : ∀ w', SlT w' ow T_uint8 1 ia (n * 512) ic (bvs (ovr img (i * 512) bs)) (t + 1) → Fro (fun u => u ≠ t + 1) w6 ow w' ow → K w') :
    HeldF w6 fun S5 => (∃ (n6 : Int), (∀ w, S5 w → w.cell? ⟨b2, 0, none⟩ = some (.int .i64 n6)) ∧ (∃ (a5 : Option Addr) (l5 c5 : Nat), (∀ w, S5 w → w.cell? (Addr.add ⟨b2, 0, none⟩ 1) = some (.slice a5 l5 c5)) ∧ (CallF Tryz.prog F_sectors_Device_sector #[(.pointer (some ⟨b, 0, none⟩)), (.int .i64 n6)] w6.drew (fun r2 w7 => ∃ (a6 : Option Addr) (l6 c6 : Nat), r2 = (.slice a6 l6 c6) ∧ (S5 w7 ∧ (RunF Tryz.prog (Builtin.copy_ #[T_s_uint8, T_s_uint8] T_int #[(.slice a6 l6 c6), (.slice a5 l5 c5)]) w7 fun r3 w8 => ∃ (n7 : Int), r3 = (.int .i64 n7) ∧ (S5 w8 ∧ (K w8))))) (PanF R)))) := by
  have nb2 : ¬ Is ia b2 := fun hh => ht2 (him.tg b2 hh)
  have kd : Kp no w6 w6.drew := Kp.drew w6 1
  have fd : Fro (fun _ => True) w6 ow w6.drew ow := Fro.kp0 kd
  refine ⟨fun w' => Kp (Is ia) w6 w', kd.of_no, _, fun w' kz => c0 (kz.blk hb2 nb2) rfl, _, _, _, fun w' kz => cN (kz.blk hb2 nb2) rfl, ?_⟩
  refine sector_c (n := n) (i := i) (kd.cell hb id) hn him.sl.2.1 hi ⟨_, _, _, rfl, kd.of_no, ?_⟩
  refine copy_own (him.fr fd trivial) (hs.kp0 kd) hs0 hbl (by omega) fun w' hs' k' f' => ⟨_, rfl, kd.of_no.trans0 k', h w' hs' ((fd.mono fun _ _ => trivial).trans f')⟩
theorem clamp_e (n : Int) : (if (512 : Int) < (if (0 : Int) > n then (0 : Int) else n) then (512 : Int) else (if (0 : Int) > n then (0 : Int) else n)) = ((clampN n : Nat) : Int) := by
  unfold clampN
  split <;> split <;> omega
theorem clamp_le (n : Int) : clampN n ≤ 512 := by unfold clampN; omega
structure Ls (w : World) (ow : Nat → Nat) (t : Nat) (a : Option Addr) (keep : List Nat) : Prop where
  rd : RdT w ow (Td t) a (keep.map u64v)
  lt : ∀ x ∈ keep, x < 18446744073709551616
  ln : keep.length * 8 ≤ 140737488355328
  nn : a = none → keep.length = 0
theorem Ls.fr {T : Nat → Prop} {w w' : World} {ow ow' : Nat → Nat} {t : Nat} {a : Option Addr} {keep : List Nat} (h : Ls w ow t a keep) (f : Fro T w ow w' ow') (hT : ∀ u, Td t u → T u) : Ls w' ow' t a keep := ⟨h.rd.fr f hT, h.lt, h.ln, h.nn⟩
theorem fallL_step (keep : List Nat) (torn off : Int) (q : List (Int × List UInt8)) (k : Nat) (img : List UInt8) (hk : k < q.length) :
    fallL keep torn off k (q.drop k) img = fallL keep torn off (k + 1) (q.drop (k + 1)) (if keptN keep k then ovr img ((q[k]).1.toNat * 512) (q[k]).2 else if (k : Int) = torn then ovr img ((q[k]).1.toNat * 512) ((q[k]).2.take (clampN off)) else img) := by
  rw [List.drop_eq_getElem_cons hk, fallL]
theorem syncL_step (q : List (Int × List UInt8)) (k : Nat) (img : List UInt8) (hk : k < q.length) : syncL (q.drop k) img = syncL (q.drop (k + 1)) (ovr img ((q[k]).1.toNat * 512) (q[k]).2) := by
  rw [List.drop_eq_getElem_cons hk, syncL]
set_option maxRecDepth 100000 in
theorem fall_c {w : World} {ow : Nat → Nat} {t b kc lc : Nat} {H : Dh} {Q : List PD} {ka la : Option Addr} {v : Dv} {keep : List Nat} {torn off : Int} {R : Po} (h : DP w ow t b H Q ka kc v) (hl : Ls w ow t la keep) (hq : Q.length ≤ 1000000)
    (hK : ∀ H' w' ow', DP w' ow' t b H' [] none 0 (v.fall keep torn off) → Fro (fun u => u ≠ t ∧ u ≠ t + 1) w ow w' ow' → R (.returned (.int .i64 40)) w') :
    GoC Tryz.prog F_sectors_Device_fall #[.pointer (some ⟨b, 0, none⟩), .agg #[.slice la keep.length lc, .int .i64 torn, .int .i64 off]] w R := by
  refine S_sectors_Device_fall ?_
  unfold W_sectors_Device_fall
  have hok := h.l.ok
  have hn2 := hok.n2
  have hlen := hok.len
  refine AlF.intro fun b1 w1 hb1e hb1 k1 s1 => ?_
  have f1 : Fro (fun _ => True) w ow w1 (ext ow w.heap.size (t + 3)) := Fro.of_kp0 (t + 3) k1
  have ht1 : ext ow w.heap.size (t + 3) b1 = t + 3 := ext_new (by omega)
  have h1 := h.fr f1 trivial trivial trivial trivial
  have hl1 := hl.fr f1 fun _ _ => trivial
  generalize ext ow w.heap.size (t + 3) = ow1 at *
  refine ⟨_, _, _, cN h1.hb rfl, ?_⟩
  have hQv : ∀ k (hk : k < Q.length), v.q[k]? = some ((Q[k]).sec, (Q[k]).bs) := fun k hk => by rw [h.l.qv]; simp [hk, PD.v]
  have hql : v.q.length = Q.length := by rw [h.l.qv]; simp
  refine loopN (fun s w' => ∃ (k : Nat) (ow' : Nat → Nat) (img : List UInt8), s.1 = (k : Int) ∧ k ≤ Q.length ∧ img.length = v.n * 512 ∧ fallL keep torn off k (v.q.drop k) img = fallL keep torn off 0 v.q v.img ∧ SlT w' ow' T_uint8 1 H.ia (v.n * 512) H.ic (bvs img) (t + 1) ∧ Fro (fun u => u ≠ t + 1) w1 ow1 w' ow') (fun s _ => Q.length - s.1.toNat)
    ⟨0, ow1, v.img, rfl, by omega, hlen, by simp, by rw [← hlen]; exact h1.l.im, ⟨Kp.refl _ _, fun _ _ _ => rfl⟩⟩ ?_
  rintro ⟨k0, u⟩ w2 ⟨k, ow2, img, hk0, hk, hil, hfl, him, f2⟩ _
  dsimp only at hk0 ⊢
  subst hk0
  refine cond_d (fun hlt => ?_) (fun hge => ?_)
  · have hkl : k < Q.length := by omega
    have hkw : IntKind.wrap .i64 ((k : Int) + 1) = ((k + 1 : Nat) : Int) := by rw [wrap_i64 (by omega) (by omega)]; omega
    rw [hkw]
    have hpl2 := h1.l.pl.fr f2 (by omega)
    have hqk := hok.q ((Q[k]).sec, (Q[k]).bs) (List.mem_of_getElem? (hQv k hkl))
    dsimp only at hqk
    have hpb := (h1.l.pb _ (List.getElem_mem hkl)).fr f2 (by omega)
    refine pdI hpl2.sl.rd hkl rfl rfl ?_
    have hsec : (Q[k]).sec = (((Q[k]).sec.toNat : Nat) : Int) := by omega
    generalize hx : Q[k] = x at *
    refine AlF.intro fun b2 w3 hb2e hb2 k3 s3 => st2 hb2 fun w5 hb25 k5 s5 => ?_
    have k25 : Kp no w2 w5 := kp_blk k3 (by omega) k5
    have f5 : Fro (fun _ => True) w2 ow2 w5 (ext ow2 w2.heap.size (t + 3)) := Fro.of_kp0 (t + 3) k25
    have ht2 : ext ow2 w2.heap.size (t + 3) b2 = t + 3 := ext_new (by omega)
    have f15 : Fro (fun u => u ≠ t + 1) w1 ow1 w5 (ext ow2 w2.heap.size (t + 3)) := f2.trans (f5.mono fun _ _ => trivial)
    have him5 := him.fr f5 trivial
    have hpb5 := hpb.fr f5 trivial
    generalize ext ow2 w2.heap.size (t + 3) = ow5 at *
    obtain ⟨hb15, ht15⟩ := blk_fr hb1 ht1 f15 (by omega)
    refine ⟨_, _, _, _, _, ⟨c0 hb15 rfl, cN hb15 rfl, cN hb15 rfl, trivial⟩, ?_⟩
    refine kept_c (k := k) (hl1.fr f15 fun u hu => hu.2.1).rd.rd hl.lt (by have := hl.ln; omega) (by omega) fun w6 k6 => ⟨_, rfl, ?_⟩
    have f6 : Fro (fun _ => True) w5 ow5 w6 ow5 := Fro.kp0 k6
    have f16 := f15.trans (f6.mono fun _ _ => trivial)
    have him6 := him5.fr f6 trivial
    have hpb6 := hpb5.fr f6 trivial
    have h6 : DP w6 ow5 t b H Q ka kc v ∨ True := .inr trivial
    obtain ⟨hbd6, _⟩ := blk_fr h1.hb h1.bt f16 (by omega)
    have hbd6' : w6.cell? ⟨b, 0, none⟩ = some (.slice H.ia (v.n * 512) H.ic) := by rw [← hlen]; exact c0 hbd6 rfl
    have hb26 := k6.blk hb25 id
    have hb16 := k6.blk hb15 id
    have hst := fallL_step keep torn off v.q k img (by omega)
    have hvk : v.q[k]'(by omega) = (x.sec, x.bs) := by have := hQv k hkl; rw [List.getElem?_eq_getElem (by omega)] at this; simp only [hx] at this; exact Option.some.inj this
    rw [hvk] at hst
    dsimp only at hst
    have hx0 : x.a = none → x.bs = [] := fun h0 => by
      have := hpb6.sl
      rw [h0] at this
      obtain ⟨e1, _⟩ := this.zero
      exact List.eq_nil_of_length_eq_zero e1
    have fin : ∀ w' img', img'.length = v.n * 512 → fallL keep torn off (k + 1) (v.q.drop (k + 1)) img' = fallL keep torn off 0 v.q v.img → SlT w' ow5 T_uint8 1 H.ia (v.n * 512) H.ic (bvs img') (t + 1) → Fro (fun u => u ≠ t + 1) w6 ow5 w' ow5 →
        (∃ (k' : Nat) (ow' : Nat → Nat) (img : List UInt8), ((k + 1 : Nat) : Int) = (k' : Int) ∧ k' ≤ Q.length ∧ img.length = v.n * 512 ∧ fallL keep torn off k' (v.q.drop k') img = fallL keep torn off 0 v.q v.img ∧ SlT w' ow' T_uint8 1 H.ia (v.n * 512) H.ic (bvs img) (t + 1) ∧ Fro (fun u => u ≠ t + 1) w1 ow1 w' ow') ∧ Q.length - Int.toNat ((k + 1 : Nat) : Int) < Q.length - Int.toNat (k : Int) :=
      fun w' img' hl' he hs f => ⟨⟨k + 1, ow5, img', rfl, by omega, hl', he, hs, f16.trans f⟩, by simp only [Int.toNat_natCast]; omega⟩
    have hin : x.sec.toNat < v.n := by omega
    rw [hsec] at hb26
    refine cond_b (fun hkt => ?_) (fun hkf => ?_)
    · rw [if_pos hkt] at hst
      refine lay_h him6 hn2 hin hbd6' hb26 (by omega) hpb6.sl.rd hx0 (by omega) fun w8 hs8 f8 => fin w8 _ ?_ (by rw [← hst]; exact hfl) hs8 f8
      rw [ovr_len (by rw [hil]; omega)]
      exact hil
    · rw [hkf, if_neg (by decide)] at hst
      refine ⟨torn, cN hb16 rfl, cond_eq (fun hte => ?_) (fun htn => ?_)⟩
      · rw [if_pos hte] at hst
        have hcl := clamp_le off
        have nb2 : ¬ Is H.ia b2 := fun hh => by have := him6.tg b2 hh; omega
        have nb1 : ¬ Is H.ia b1 := fun hh => by have := him6.tg b1 hh; omega
        have kd : Kp no w6 w6.drew := Kp.drew w6 1
        have fd : Fro (fun _ => True) w6 ow5 w6.drew ow5 := Fro.kp0 kd
        refine ⟨fun w' => Kp (Is H.ia) w6 w', kd.of_no, _, fun w' kz => c0 (kz.blk hb26 nb2) rfl, _, _, _, fun w' kz => cN (kz.blk hb26 nb2) rfl, _, fun w' kz => cN (kz.blk hb16 nb1) rfl, ?_⟩
        rw [clamp_e]
        refine ⟨⟨by omega, by have := hpb6.sl.2.1; omega⟩, trivial, ?_⟩
        refine sector_c (n := v.n) (i := x.sec.toNat) (kd.cell hbd6' id) hn2 him6.sl.2.1 hin ⟨_, _, _, rfl, kd.of_no, ?_⟩
        rw [subA_zero, Int.toNat_natCast]
        have hbt : clampN off = (x.bs.take (clampN off)).length := by rw [List.length_take]; omega
        have hrd : Rd w6.drew x.a (bvs (x.bs.take (clampN off))) := by rw [← bvs_take]; exact (hpb6.sl.rd.take _).kp0 kd
        have hg := copy_own (sa := x.a) (bs := x.bs.take (clampN off)) (dl := 512) (dc := H.ic - x.sec.toNat * 512) (sc := x.c) (o := x.sec.toNat * 512) (him6.fr fd trivial) hrd (fun h0 => by rw [hx0 h0, List.take_nil]) (by omega) (by omega) (K := fun r3 w10 => ∃ (n11 : Int), r3 = (.int .i64 n11) ∧ ((Kp (Is H.ia) w6 w10) ∧ ((∃ (k' : Nat) (ow' : Nat → Nat) (img : List UInt8), ((k + 1 : Nat) : Int) = (k' : Int) ∧ k' ≤ Q.length ∧ img.length = v.n * 512 ∧ fallL keep torn off k' (v.q.drop k') img = fallL keep torn off 0 v.q v.img ∧ SlT w10 ow' T_uint8 1 H.ia (v.n * 512) H.ic (bvs img) (t + 1) ∧ Fro (fun u => u ≠ t + 1) w1 ow1 w10 ow') ∧ Q.length - Int.toNat ((k + 1 : Nat) : Int) < Q.length - Int.toNat (k : Int))))
          fun w' hs' k' f' => ⟨_, rfl, kd.of_no.trans0 k', fin w' _ (by rw [ovr_len (by rw [hil]; omega)]; exact hil) (by rw [← hst]; exact hfl) hs' ((fd.mono fun _ _ => trivial).trans f')⟩
        rw [← hbt] at hg
        exact hg
      · rw [if_neg htn] at hst
        exact fin w6 img hil (by rw [← hst]; exact hfl) him6 ⟨Kp.refl _ _, fun _ _ _ => rfl⟩
  · have hke : k = Q.length := by omega
    subst hke
    rw [List.drop_eq_nil_of_le (by omega), fallL] at hfl
    obtain ⟨hbd, hbt⟩ := blk_fr h1.hb h1.bt f2 (by omega)
    refine NilF.intro rfl (stb (add1 b 1) hbd hbt (by simp [Dh.cs]) fun w11 hb11 f11 s11 => NilF.intro rfl (stb (add1 b 6) hb11 hbt (by simp [Dh.cs]) fun w12 hb12 f12 s12 => NilF.intro rfl (stb (add1 b 2) hb12 hbt (by simp [Dh.cs]) fun w13 hb13 f13 s13 =>
      NilF.intro rfl (stb (add1 b 3) hb13 hbt (by simp [Dh.cs]) fun w14 hb14 f14 s14 => stb (add2 b 3 1) hb14 hbt (by simp [Dh.cs]) fun w15 hb15 f15 s15 => stb (add2 b 3 2) hb15 hbt (by simp [Dh.cs]) fun w16 hb16 f16 s16 => ?_))))
    have ff := ((((f11.trans f12).trans f13).trans f14).trans f15).trans f16
    have hfo := hok.fall keep torn off
    refine hK ⟨H.ia, H.ic, none, 0⟩ w16 ow2 ⟨⟨?_, slt_nil _ _ _ _ _, fun x hx => absurd hx (by simp), rfl, hfo⟩, ?_, hbt, slt_nil _ _ _ _ _⟩ (((f1.mono fun _ _ => trivial).trans (f2.mono fun u hu => hu.2)).trans (ff.mono fun u hu => hu.1))
    · show SlT w16 ow2 T_uint8 1 H.ia (fallL keep torn off 0 v.q v.img).length H.ic (bvs (fallL keep torn off 0 v.q v.img)) (t + 1)
      rw [← hfl, hil]
      exact him.fr ff (by omega)
    · have e : (fallL keep torn off 0 v.q v.img).length = v.img.length := by rw [← hfl, hil, hlen]
      show Blk w16 b #[.slice H.ia (fallL keep torn off 0 v.q v.img).length H.ic, .slice none 0 0, .int .i64 0, .slice none 0 0, .int .i64 0, .int .i64 0, .bool true, .int .i64 v.calls] T_sectors_Device
      rw [e]
      exact hb16
section
open Go Go.RowKit Go.Shelf
attribute [local go_sem] Oper.semAt_some
def pdAgg (x : PD) : Value := .agg #[.int .i64 x.sec, .slice x.a x.bs.length x.c]
set_option maxRecDepth 100000 in
set_option maxHeartbeats 2000000 in
theorem back1_in {α : Type} (ix : α → Nat) (pd : α → PD) (F : Fence) (n : Nat) (h7 : F.fn 104) (hro : F.round = none) (hn : 1 ≤ n) (l Bs n₀ b len cap : Nat) (xs : List α) (hxl : xs.length = len) (hreach : len * 32 ≤ 140737488351232) (hb : b < n₀) (hBn : Bs < n₀) (J Jx : List α → World → Prop)
    (hY : ∀ pre x W, J pre W → pre.length < len → YieldAt F (n - 1) Tryz.prog l #[.int .i64 (ix x : Int), pdAgg (pd x)] W fun e W' =>
      (e = .returned (.bool true) ∧ J (pre ++ [x]) W' ∧ Below n₀ W W') ∨ (e = .returned (.bool false) ∧ Jx (pre ++ [x]) W'))
    (W : World) (hBs : W.cell? ⟨Bs, 0, none⟩ = some (.slice (some ⟨b, 0, none⟩) len cap))
    (hc : ∀ k (h : k < xs.length), ix xs[k] = len - 1 - k ∧ W.cell? ⟨b, (len - 1 - k) * 2, none⟩ = some (.int .i64 (pd xs[k]).sec) ∧ W.cell? ⟨b, (len - 1 - k) * 2 + 1, none⟩ = some (.slice (pd xs[k]).a (pd xs[k]).bs.length (pd xs[k]).c)) (h0 : J [] W) :
    CallsIn F n Tryz.prog 104 #[.func (.yield l) #[] #[], .pointer (some ⟨Bs, 0, none⟩)] W fun e W' => (∃ v, e = .returned v) ∧
      ((∃ ys, ys = xs ∧ J ys W') ∨ (∃ pre, (∃ k, k ≤ len ∧ pre = xs.take k) ∧ Jx pre W')) := by
  refine callsIn_of_wp Tryz.func104 rfl h7 ?_ hro
  simp only [Tryz.ntmps104, List.size_toArray, List.length_cons, List.length_nil, Nat.reduceAdd, Nat.reduceSub, Array.replicate_succ, Array.replicate_zero, List.push_toArray, List.append_toArray, List.nil_append, List.cons_append]
  gi_wp2
  gi_loopw [3] (fun i wr => ∃ k : Nat, k ≤ len ∧ i = .int .i64 ((len : Int) - 1 - (k : Int)) ∧ J (xs.take k) wr ∧ Below n₀ W wr)
    (fun i _ => (intOf i + 1).toNat)
  case atStart => exact ⟨0, Nat.zero_le _, by simp, h0, Below.refl _ _⟩
  case round =>
    obtain ⟨k, hk, rfl, hJs, hnx⟩ := hrel
    by_cases hlt : k < len
    · have hkx : k < xs.length := by omega
      obtain ⟨fn, tmps, assign, body, hy, hR⟩ := hY _ (xs[k]'hkx) wr hJs (by rw [List.length_take]; omega)
      have e : (len : Int) - 1 - (k : Int) = ((len - 1 - k : Nat) : Int) := by omega
      obtain ⟨g0, g1, g2⟩ := hc k hkx
      have hc1 : wr.cell? ⟨b, (len - 1 - k) * 2, none⟩ = some (.int .i64 (pd (xs[k]'hkx)).sec) := (hnx.cell (p := ⟨b, (len - 1 - k) * 2, none⟩) hb).trans g1
      have hc2 : wr.cell? ⟨b, (len - 1 - k) * 2 + 1, none⟩ = some (.slice (pd (xs[k]'hkx)).a (pd (xs[k]'hkx)).bs.length (pd (xs[k]'hkx)).c) := (hnx.cell (p := ⟨b, (len - 1 - k) * 2 + 1, none⟩) hb).trans g2
      have hus : xs.take k ++ [xs[k]'hkx] = xs.take (k + 1) := (take_snoc_get xs k hkx).symm
      rw [e]
      rw [g0] at hy
      clear g0 g1 g2 e
      rw [hus] at hR
      generalize (xs[k]'hkx) = x at *
      have hBs' : wr.cell? ⟨Bs, 0, none⟩ = some (.slice (some ⟨b, 0, none⟩) len cap) := (hnx.cell (p := ⟨Bs, 0, none⟩) hBn).trans hBs
      dsimp only [pdAgg] at hy
      have hkk : k + 1 + (len - 1 - k) = len := by omega
      have hjl : len - 1 - k < len := by omega
      clear hus
      revert hkk
      generalize hj : len - 1 - k = j at *
      intro hkk
      clear hj
      gi_wp2
      refine hR.mono ?_
      rintro e W3 (⟨rfl, hJ3, hk3⟩ | ⟨rfl, hJx3⟩)
      · gi_wp2
        go_roundw
        case rel => exact ⟨k + 1, by omega, by (first | (congr 1; omega; done) | (congr 1; done)), hJ3, hnx.trans hk3⟩
        case measure => simp [intOf] <;> omega
      · gi_wp2
        refine bodyPost_ret (results_none rfl _ _ _) rfl ?_
        exact ⟨⟨_, rfl⟩, .inr ⟨_, ⟨k + 1, by omega, rfl⟩, hJx3⟩⟩
    · obtain rfl : k = len := by omega
      have e : (k : Int) - 1 - (k : Int) = -1 := by omega
      rw [e]
      rw [List.take_of_length_le (by omega)] at hJs
      clear e
      gi_wp2
      go_end0
      exact ⟨⟨_, rfl⟩, .inl ⟨_, rfl, hJs⟩⟩
theorem back1_nil_in {α : Type} (F : Fence) (n : Nat) (h7 : F.fn 104) (hro : F.round = none) (l Bs : Nat) (J : List α → World → Prop) (W : World) (hBs : W.cell? ⟨Bs, 0, none⟩ = some (.slice none 0 0)) (h0 : J [] W) :
    CallsIn F n Tryz.prog 104 #[.func (.yield l) #[] #[], .pointer (some ⟨Bs, 0, none⟩)] W fun e W' => (∃ v, e = .returned v) ∧ J [] W' := by
  refine callsIn_of_wp Tryz.func104 rfl h7 ?_ hro
  simp only [Tryz.ntmps104, List.size_toArray, List.length_cons, List.length_nil, Nat.reduceAdd, Nat.reduceSub, Array.replicate_succ, Array.replicate_zero, List.push_toArray, List.append_toArray, List.nil_append, List.cons_append]
  gi_wp2
  gi_loopw [3] (fun i wr => i = .int .i64 (-1) ∧ J [] wr) (fun _ _ => 0)
  case atStart => exact ⟨rfl, h0⟩
  case round =>
    obtain ⟨rfl, hJs⟩ := hrel
    gi_wp2
    go_end0
    exact ⟨⟨_, rfl⟩, hJs⟩
theorem backward_in (F : Fence) (n : Nat) (h5 : F.fn 60) (hro : F.round = none) (a : Option Addr) (len cap : Nat) (w : World) :
    CallsIn F n Tryz.prog 60 #[.slice a len cap] w fun e w' => e = .returned (.func (.func 104) #[] #[.pointer (some ⟨w.heap.size, 0, none⟩)]) ∧ w' = w.alloc (.cells #[.slice a len cap] 90) := by
  refine callsIn_of_wp Tryz.func60 rfl h5 ?_ hro
  simp only [Tryz.ntmps60, List.size_toArray, List.length_cons, List.length_nil, Nat.reduceAdd, Nat.reduceSub, Array.replicate_succ, Array.replicate_zero, List.push_toArray, List.append_toArray, List.nil_append, List.cons_append]
  gi_wp2
  go_ret
  exact ⟨rfl, rfl⟩
theorem back_stops {α : Type} (ix : α → Nat) (pd : α → PD) (F : Fence) (n : Nat) (h7 : F.fn 104) (hro : F.round = none) (hn : 1 ≤ n) (Bs n₀ : Nat) (a : Option Addr) (cap : Nat) (len : Nat) (xs : List α) (hxl : xs.length = len) (hreach : len * 32 ≤ 140737488351232) (w : World) (hBs : Bs < n₀) (hn₀ : n₀ ≤ w.heap.size)
    (hc : w.cell? ⟨Bs, 0, none⟩ = some (.slice a len cap)) (hI : (a = none ∧ len = 0 ∧ cap = 0) ∨ ∃ b, a = some ⟨b, 0, none⟩ ∧ b < n₀ ∧ ∀ k (h : k < xs.length), ix xs[k] = len - 1 - k ∧ w.cell? ⟨b, (len - 1 - k) * 2, none⟩ = some (.int .i64 (pd xs[k]).sec) ∧ w.cell? ⟨b, (len - 1 - k) * 2 + 1, none⟩ = some (.slice (pd xs[k]).a (pd xs[k]).bs.length (pd xs[k]).c)) :
    SeqStopsK F n Tryz.prog 104 #[.pointer (some ⟨Bs, 0, none⟩)] (fun x : α => #[Value.int .i64 (ix x : Int), pdAgg (pd x)]) (Below n₀) (fun ys => ys = xs) (fun pre => ∃ k, k ≤ len ∧ pre = xs.take k) len w := fun l J Jx W hW _ _ hY h0 => by
  have hW' := hW.mono hn₀
  have hc' := (hW'.cell (p := ⟨Bs, 0, none⟩) hBs).trans hc
  rcases hI with ⟨rfl, rfl, rfl⟩ | ⟨b, rfl, hb, hcs⟩
  · have hx0 : xs = [] := List.eq_nil_of_length_eq_zero hxl
    exact (back1_nil_in F n h7 hro l Bs J W hc' h0).mono fun e W' ⟨he, hj⟩ => ⟨he, .inl ⟨_, hx0.symm, hj⟩⟩
  · exact back1_in ix pd F n h7 hro hn l Bs n₀ b len cap xs hxl hreach hb hBs J Jx hY W hc' (fun k hk => ⟨(hcs k hk).1, (hW'.cell (p := ⟨b, (len - 1 - k) * 2, none⟩) hb).trans (hcs k hk).2.1, (hW'.cell (p := ⟨b, (len - 1 - k) * 2 + 1, none⟩) hb).trans (hcs k hk).2.2⟩) h0
end
section
open Go Go.RowKit Go.Shelf
attribute [local go_sem] Oper.semAt_some
def sq1 : Code → Code
  | .seq a _ => a
  | c => c
def sq2 : Code → Code
  | .seq _ b => b
  | c => c
noncomputable def rdA : Code := sq1 (codeOf Tryz.f22)
noncomputable def rdB : Code := sq1 (sq2 (codeOf Tryz.f22))
noncomputable def rdC : Code := sq2 (sq2 (codeOf Tryz.f22))
theorem rd_split : codeOf Tryz.f22 = .seq rdA (.seq rdB rdC) := by kernel_rfl
def A_rd : Ann := { loops := fun _ => [], joins := fun _ => none, held := fun k => match k with | 3 => true | _ => false, tail := fun _ => none }
set_option maxRecDepth 1000000 in
def W_rd (p1 : Option Addr) (n1 : Int) (w : World) (R : Po) (H : Value → Value → Value → Value → World → Prop) : Prop :=
  (AlF w (.cells #[(.int .i64 n1)] T_int) fun b1 w1 => (AlF w1 (.cells #[(.slice none 0 0)] T_s_uint8) fun b2 w2 => (AlF w2 (.cells #[(.int .i64 (0 : Int))] T_api_Errno) fun b3 w3 => (NilF p1 fun d1 => (∃ (q1 : Bool), w3.cell? (Addr.add d1 6) = some (.bool q1) ∧ (cond q1 (StF w3 ⟨b2, 0, none⟩ (.slice none 0 0) fun w4 => (StF w4 ⟨b3, 0, none⟩ (.int .i64 (40 : Int)) fun w5 => (∃ (a1 : Option Addr) (l1 c1 : Nat), w5.cell? ⟨b2, 0, none⟩ = some (.slice a1 l1 c1) ∧ (∃ (n2 : Int), w5.cell? ⟨b3, 0, none⟩ = some (.int .i64 n2) ∧ (R (.returned (.tuple #[(.slice a1 l1 c1), (.int .i64 n2)])) w5))))) (HeldF w3 fun S3 => (∃ (n3 : Int), (∀ w, S3 w → w.cell? ⟨b1, 0, none⟩ = some (.int .i64 n3)) ∧ (cond (decide (n3 < (0 : Int))) (StF w3.drew ⟨b2, 0, none⟩ (.slice none 0 0) fun w6 => (StF w6 ⟨b3, 0, none⟩ (.int .i64 (41 : Int)) fun w7 => (∃ (a2 : Option Addr) (l2 c2 : Nat), w7.cell? ⟨b2, 0, none⟩ = some (.slice a2 l2 c2) ∧ (∃ (n4 : Int), w7.cell? ⟨b3, 0, none⟩ = some (.int .i64 n4) ∧ (R (.returned (.tuple #[(.slice a2 l2 c2), (.int .i64 n4)])) w7))))) (∃ (n5 : Int), (∀ w, S3 w → w.cell? ⟨b1, 0, none⟩ = some (.int .i64 n5)) ∧ (CallF Tryz.prog F_sectors_Device_Sectors #[(.pointer p1)] w3.drew (fun r1 w8 => ∃ (n6 : Int), r1 = (.int .i64 n6) ∧ (S3 w8 ∧ (cond (decide (n5 ≥ n6)) (StF w8 ⟨b2, 0, none⟩ (.slice none 0 0) fun w9 => (StF w9 ⟨b3, 0, none⟩ (.int .i64 (41 : Int)) fun w10 => (∃ (a3 : Option Addr) (l3 c3 : Nat), w10.cell? ⟨b2, 0, none⟩ = some (.slice a3 l3 c3) ∧ (∃ (n7 : Int), w10.cell? ⟨b3, 0, none⟩ = some (.int .i64 n7) ∧ (R (.returned (.tuple #[(.slice a3 l3 c3), (.int .i64 n7)])) w10))))) (H (.pointer p1) (.pointer (some ⟨b1, 0, none⟩)) (.pointer (some ⟨b2, 0, none⟩)) (.pointer (some ⟨b3, 0, none⟩)) w8)))) (PanF R))))))))))))
set_option maxRecDepth 1000000 in
theorem E_rd (p1 : Option Addr) (n1 : Int) (w : World) (R : Po) (H : Value → Value → Value → Value → World → Prop) :
    den Tryz.prog A_rd rdA (fun E w => den Tryz.prog A_rd rdB (fun E w => H (E 0) (E 3) (E 4) (E 5) w) (fun _ _ _ => False) (retE Tryz.prog [.cell 4 70, .cell 5 49] R) (fun _ => PanF R) E w) (fun _ _ _ => False) (retE Tryz.prog [.cell 4 70, .cell 5 49] R) (fun _ => PanF R) (fun t => List.getD [(.pointer p1), (.int .i64 n1)] t undef) w = W_rd p1 n1 w R H := by kernel_rfl
set_option maxRecDepth 1000000 in
theorem rd_head {p1 : Option Addr} {n1 : Int} {w : World} {R : Po} {H : Value → Value → Value → Value → World → Prop} {n : Nat} (h : W_rd p1 n1 w R H)
    (hC : ∀ (a : Act) (w' : World), a.tmps.size = 40 → a.defers = [] → H (a.tmps.getD 0 undef) (a.tmps.getD 3 undef) (a.tmps.getD 4 undef) (a.tmps.getD 5 undef) w' → rdC.wpIn Fence.wide n Tryz.prog (bodyPostM Fence.wide n Tryz.prog Tryz.f22 R) a w') :
    CallsIn Fence.wide n Tryz.prog 22 #[.pointer p1, .int .i64 n1] w R := by
  refine callsIn_of_wp_marks (c := codeOf Tryz.f22) Tryz.func22 (by kernel_rfl) trivial ?_ rfl
  rw [rd_split]
  rw [← E_rd] at h
  have hs : St 40 { tmps := #[.pointer p1, .int .i64 n1] ++ Array.replicate (Tryz.f22.ntmps - (#[.pointer p1, .int .i64 n1] : Array Value).size) undef, defers := [] } (fun t => List.getD [(.pointer p1), (.int .i64 n1)] t undef) [] := by
    have hn : Tryz.f22.ntmps = 40 := by kernel_rfl
    rw [hn]
    refine ⟨by simp, fun t => ?_, rfl⟩
    simp only [Array.getD_eq_getD_getElem?, List.getD_eq_getElem?_getD, Array.getElem?_append, List.size_toArray]
    split
    · simp
    · rename_i ht
      rw [List.getElem?_eq_none (by simpa using ht)]
      simp only [Array.getElem?_replicate]
      split <;> rfl
  have fin : ∀ (N : Env → World → Prop) (K : Act → World → Prop) (E : Env) (m : Nat) (e : Exit) (a : Act) (w' : World), (∀ a w' E', St 40 a E' [] → N E' w' → K a w') → KPost 40 m E [] N (fun _ _ _ => False) (retE Tryz.prog [.cell 4 70, .cell 5 49] R) (fun _ => PanF R) e a w' → Exit.then K (bodyPostM Fence.wide n Tryz.prog Tryz.f22 R) e a w' := by
    intro N K E m e a w' hK hq
    cases e with
    | normal =>
      obtain ⟨E', h1, _, h3⟩ := hq
      exact hK a w' E' h1 h3
    | ret =>
      obtain ⟨E', h1, _, h3⟩ := hq
      obtain ⟨vs, hr, hk⟩ := results_run (fn := Tryz.f22) (l := [.cell 4 70, .cell 5 49]) (by kernel_rfl) h1.at_ h3
      show LeavesInM Fence.wide n Tryz.prog Tryz.f22 a.tmps R a.defers .returning w'
      rw [h1.defers]
      exact ⟨_, hr, hk⟩
    | panic ch =>
      show LeavesInM Fence.wide n Tryz.prog Tryz.f22 a.tmps R a.defers (.panicking ch) w'
      obtain ⟨E', h1, _, h3⟩ := hq
      rw [h1.defers]
      exact h3
    | exit i => obtain ⟨_, _, _, h3⟩ := hq; exact h3.elim
    | goto l => exact hq.elim
    | outgrown => exact hq.elim
  refine wpIn_seq (wpIn_wide.2 (wp_mono (den_wp (by kernel_rfl) rdA _ _ _ _ _ _ _ (by kernel_rfl) (by kernel_rfl) (okM_zero _) (fun _ _ _ => rfl) hs h) fun e a w' hq => fin _ _ _ _ e a w' (fun a w' E' h1 h3 => ?_) hq))
  refine wpIn_seq (wpIn_wide.2 (wp_mono (den_wp (by kernel_rfl) rdB _ _ _ _ _ _ _ (by kernel_rfl) (by kernel_rfl) (okM_zero _) (fun _ _ _ => rfl) h1 h3) fun e a w' hq => fin _ _ _ _ e a w' (fun a w' E' h1 h3 => hC a w' h1.size h1.defers ?_) hq))
  rw [h1.at_ 0, h1.at_ 3, h1.at_ 4, h1.at_ 5]
  exact h3
end
section
open Go Go.RowKit Go.Shelf
attribute [local go_sem] Oper.semAt_some
set_option maxRecDepth 100000 in
theorem lit40 (l : List Value) (h : l.length = 40) : ∃ u0 u1 u2 u3 u4 u5 u6 u7 u8 u9 u10 u11 u12 u13 u14 u15 u16 u17 u18 u19 u20 u21 u22 u23 u24 u25 u26 u27 u28 u29 u30 u31 u32 u33 u34 u35 u36 u37 u38 u39, l = [u0, u1, u2, u3, u4, u5, u6, u7, u8, u9, u10, u11, u12, u13, u14, u15, u16, u17, u18, u19, u20, u21, u22, u23, u24, u25, u26, u27, u28, u29, u30, u31, u32, u33, u34, u35, u36, u37, u38, u39] := by
  rcases l with _ | ⟨u0, l⟩
  · simp at h
  rcases l with _ | ⟨u1, l⟩
  · simp at h
  rcases l with _ | ⟨u2, l⟩
  · simp at h
  rcases l with _ | ⟨u3, l⟩
  · simp at h
  rcases l with _ | ⟨u4, l⟩
  · simp at h
  rcases l with _ | ⟨u5, l⟩
  · simp at h
  rcases l with _ | ⟨u6, l⟩
  · simp at h
  rcases l with _ | ⟨u7, l⟩
  · simp at h
  rcases l with _ | ⟨u8, l⟩
  · simp at h
  rcases l with _ | ⟨u9, l⟩
  · simp at h
  rcases l with _ | ⟨u10, l⟩
  · simp at h
  rcases l with _ | ⟨u11, l⟩
  · simp at h
  rcases l with _ | ⟨u12, l⟩
  · simp at h
  rcases l with _ | ⟨u13, l⟩
  · simp at h
  rcases l with _ | ⟨u14, l⟩
  · simp at h
  rcases l with _ | ⟨u15, l⟩
  · simp at h
  rcases l with _ | ⟨u16, l⟩
  · simp at h
  rcases l with _ | ⟨u17, l⟩
  · simp at h
  rcases l with _ | ⟨u18, l⟩
  · simp at h
  rcases l with _ | ⟨u19, l⟩
  · simp at h
  rcases l with _ | ⟨u20, l⟩
  · simp at h
  rcases l with _ | ⟨u21, l⟩
  · simp at h
  rcases l with _ | ⟨u22, l⟩
  · simp at h
  rcases l with _ | ⟨u23, l⟩
  · simp at h
  rcases l with _ | ⟨u24, l⟩
  · simp at h
  rcases l with _ | ⟨u25, l⟩
  · simp at h
  rcases l with _ | ⟨u26, l⟩
  · simp at h
  rcases l with _ | ⟨u27, l⟩
  · simp at h
  rcases l with _ | ⟨u28, l⟩
  · simp at h
  rcases l with _ | ⟨u29, l⟩
  · simp at h
  rcases l with _ | ⟨u30, l⟩
  · simp at h
  rcases l with _ | ⟨u31, l⟩
  · simp at h
  rcases l with _ | ⟨u32, l⟩
  · simp at h
  rcases l with _ | ⟨u33, l⟩
  · simp at h
  rcases l with _ | ⟨u34, l⟩
  · simp at h
  rcases l with _ | ⟨u35, l⟩
  · simp at h
  rcases l with _ | ⟨u36, l⟩
  · simp at h
  rcases l with _ | ⟨u37, l⟩
  · simp at h
  rcases l with _ | ⟨u38, l⟩
  · simp at h
  rcases l with _ | ⟨u39, l⟩
  · simp at h
  have hl : l = [] := List.eq_nil_of_length_eq_zero (by simpa using h)
  subst hl
  exact ⟨_, _, _, _, _, _, _, _, _, _, _, _, _, _, _, _, _, _, _, _, _, _, _, _, _, _, _, _, _, _, _, _, _, _, _, _, _, _, _, _, rfl⟩
def GoodP (w : World) (x : PD) : Prop := Rd w x.a (bvs x.bs) ∧ x.bs.length = 512
theorem sl_grown {W W' : World} {row : Option Nat} {e : TypeId} {s : Nat} {a : Option Addr} {l c : Nat} {xs : List Value} (h : Sl W e s a l c xs) (hg : W.grownBy W' row) (hr : ∀ r, row = some r → ∃ o : Obj, W.heap[r]? = some o ∧ o.isCells = false) : Sl W' e s a l c xs := by
  obtain ⟨h1, h2, h3⟩ := h
  refine ⟨h1, h2, ?_⟩
  rcases h3 with h3 | ⟨b, cur, ha, hb, hs, ht⟩
  · exact .inl h3
  · exact .inr ⟨b, cur, ha, (grownBy_keeps_cells hg hr hb rfl).trans hb, hs, ht⟩
theorem kp_others {W W' : World} (k : Kp no W W') : KeepsOthers W W' := ⟨k.size, fun j o hj _ => (k.block j (Array.getElem?_eq_some_iff.1 hj).1 id).trans hj⟩
theorem kp_boxed {W W' : World} {B : Nat} {t : TypeId} {v : Value} (k : Kp no W W') (h : Boxed W B t v) : Boxed W' B t v := (k.block B h.lt id).trans h
theorem below_boxed {W W' : World} {B n : Nat} {t : TypeId} {v : Value} (k : Below n W W') (h : Boxed W B t v) (hn : B < n) : Boxed W' B t v := (k.block B hn).trans h
theorem readL_none {i : Int} : ∀ (q : List (Int × List UInt8)) (b : List UInt8), (∀ p ∈ q, p.1 ≠ i) → readL i q b = b
  | [], _, _ => rfl
  | p :: r, b, h => by rw [readL, if_neg (h p (by simp))]; exact readL_none r b fun x hx => h x (by simp [hx])
theorem readL_app {i : Int} : ∀ (q r : List (Int × List UInt8)) (b : List UInt8), readL i (q ++ r) b = readL i r (readL i q b)
  | [], _, _ => rfl
  | p :: q, r, b => by rw [List.cons_append, readL, readL, readL_app q r]
theorem rd_below {w W : World} {a : Option Addr} {xs : List Value} (h : Rd w a xs) (k : Below w.heap.size w W) : Rd W a xs := fun i v hv => by
  obtain ⟨b, o, ha, hc⟩ := h i v hv
  exact ⟨b, o, ha, (k.cell (p := ⟨b, o + i, none⟩) (cell_lt hc)).trans hc⟩
theorem ret_facts {w0 W w' : World} {e2 e3 c' : Nat} {a' : Option Addr} {bs : List UInt8} {u2 u3 : Value} (hb : Below w0.heap.size w0 W) (hl2 : w0.heap.size ≤ e2) (hl3 : w0.heap.size ≤ e3) (h23 : e2 ≠ e3) (kk : Kp no W w') (d2 : Boxed W e2 70 u2) (d3 : Boxed W e3 49 u3) (hsl : Sl w' T_uint8 1 a' 512 c' (bvs bs)) (hfr : Fresh W a') :
    Boxed ((w'.setCell ⟨e2, 0, none⟩ (.slice a' 512 c')).setCell ⟨e3, 0, none⟩ (.int .i64 0)) e2 70 (.slice a' 512 c') ∧ Boxed ((w'.setCell ⟨e2, 0, none⟩ (.slice a' 512 c')).setCell ⟨e3, 0, none⟩ (.int .i64 0)) e3 49 (.int .i64 0) ∧
    Sl ((w'.setCell ⟨e2, 0, none⟩ (.slice a' 512 c')).setCell ⟨e3, 0, none⟩ (.int .i64 0)) T_uint8 1 a' 512 c' (bvs bs) ∧ KeepsOthers W ((w'.setCell ⟨e2, 0, none⟩ (.slice a' 512 c')).setCell ⟨e3, 0, none⟩ (.int .i64 0)) ∧
    Below w0.heap.size w0 ((w'.setCell ⟨e2, 0, none⟩ (.slice a' 512 c')).setCell ⟨e3, 0, none⟩ (.int .i64 0)) ∧ Fresh w0 a' := by
  have g2 := kp_boxed kk d2
  have g3 := kp_boxed kk d3
  have l2 := d2.lt
  have l3 := d3.lt
  have sz := hb.size
  have hbw : Below w0.heap.size w0 w' := hb.trans (kk.below sz fun _ _ h => h)
  refine ⟨(g2.set _).other h23 _, (g3.other (Ne.symm h23) _).set _, ?_, ((kp_others kk).trans (KeepsOthers.setCell _ _ _)).trans (KeepsOthers.setCell _ _ _), (hbw.setCell (p := ⟨e2, 0, none⟩) hl2 _).setCell (p := ⟨e3, 0, none⟩) hl3 _, fun k hk => by have := hfr k hk; omega⟩
  refine (hsl.kp (Kp.setCell (a := ⟨e2, 0, none⟩)) fun k hk hh => ?_).kp (Kp.setCell (a := ⟨e3, 0, none⟩)) fun k hk hh => ?_
  · have := hfr k hk; dsimp only at hh; omega
  · have := hfr k hk; dsimp only at hh; omega
def RdPost (w0 : World) (bs : List UInt8) : Po := fun e W' => ∃ (a' : Option Addr) (c' : Nat), e = .returned (.tuple #[.slice a' 512 c', .int .i64 0]) ∧ Sl W' T_uint8 1 a' 512 c' (bvs bs) ∧ Below w0.heap.size w0 W' ∧ Fresh w0 a'
set_option maxRecDepth 1000000 in
set_option maxHeartbeats 8000000 in
theorem rd_rest {w0 w : World} {b e1 e2 e3 pc n iN ic : Nat} {pa ia : Option Addr} {Q : List PD} {img : List UInt8} {a : Act} {R : Po} (hR : ∀ e W', RdPost w0 (readL (iN : Int) (Q.map PD.v) ((img.drop (iN * 512)).take 512)) e W' → R e W') (hsz : a.tmps.size = 40) (hdf : a.defers = []) (h0 : a.tmps.getD 0 undef = .pointer (some ⟨b, 0, none⟩)) (h3 : a.tmps.getD 3 undef = .pointer (some ⟨e1, 0, none⟩)) (h4 : a.tmps.getD 4 undef = .pointer (some ⟨e2, 0, none⟩)) (h5 : a.tmps.getD 5 undef = .pointer (some ⟨e3, 0, none⟩))
    (hb0 : Below w0.heap.size w0 w) (hl2 : w0.heap.size ≤ e2) (hl3 : w0.heap.size ≤ e3) (h23 : e2 ≠ e3) (bx1 : Boxed w e1 3 (.int .i64 (iN : Int))) (bx2 : Boxed w e2 70 (.slice none 0 0)) (bx3 : Boxed w e3 49 (.int .i64 0)) (hpd : w.cell? ⟨b, 1, none⟩ = some (.slice pa Q.length pc))
    (hI : (pa = none ∧ Q.length = 0 ∧ pc = 0) ∨ ∃ b', pa = some ⟨b', 0, none⟩ ∧ b' < w.heap.size ∧ ∀ j v, (fP Q)[j]? = some v → w.cell? ⟨b', j, none⟩ = some v) (hQ : ∀ x ∈ Q, GoodP w x) (hql : Q.length ≤ 1000000)
    (him : w.cell? ⟨b, 0, none⟩ = some (.slice ia (n * 512) ic)) (hn : n ≤ 8192) (hic : n * 512 ≤ ic) (hiN : iN < n) (hir : Rd w ia (bvs img)) (hil : img.length = n * 512) :
    rdC.wpIn Fence.wide 8 Tryz.prog (bodyPostM Fence.wide 8 Tryz.prog Tryz.f22 R) a w := by
  obtain ⟨⟨l⟩, df⟩ := a
  obtain ⟨u0, u1, u2, u3, u4, u5, u6, u7, u8, u9, u10, u11, u12, u13, u14, u15, u16, u17, u18, u19, u20, u21, u22, u23, u24, u25, u26, u27, u28, u29, u30, u31, u32, u33, u34, u35, u36, u37, u38, u39, rfl⟩ := lit40 l (by simpa using hsz)
  dsimp only at hdf
  subst hdf
  have h0' : u0 = .pointer (some ⟨b, 0, none⟩) := h0
  have h3' : u3 = .pointer (some ⟨e1, 0, none⟩) := h3
  have h4' : u4 = .pointer (some ⟨e2, 0, none⟩) := h4
  have h5' : u5 = .pointer (some ⟨e3, 0, none⟩) := h5
  subst h0' h3' h4' h5'
  clear h0 h3 h4 h5 hsz
  -- the pending writes, from the last to the first
  obtain ⟨xs, hxl, hxv, hxi⟩ : ∃ xs : List {x : Nat × PD // GoodP w x.2}, xs.length = Q.length ∧ (xs.map fun x => x.1.2) = Q.reverse ∧ ∀ k (h : k < xs.length), xs[k].1.1 = Q.length - 1 - k := by
    refine ⟨List.ofFn fun k : Fin Q.length => ⟨(Q.length - 1 - k.1, Q[Q.length - 1 - k.1]'(by omega)), hQ _ (List.getElem_mem _)⟩, by simp, ?_, fun k h => by simp⟩
    apply List.ext_getElem
    · simp
    · intro k h1 h2
      simp
  have hxp : ∀ k (h : k < xs.length), xs[k].1.2 = Q[Q.length - 1 - k]'(by omega) := fun k h => by
    have := congrArg (fun l => l[k]?) hxv
    simp only [List.getElem?_map, List.getElem?_eq_getElem h, Option.map_some] at this
    rw [List.getElem?_reverse (by omega), List.getElem?_eq_getElem (by omega)] at this
    exact Option.some.inj this
  generalize hbytes : readL (iN : Int) (Q.map PD.v) ((img.drop (iN * 512)).take 512) = bytes at *
  delta rdC
  simp only [sq2, codeOf, Tryz.f22, Option.getD]
  gi_wp2_with (refine ⟨trivial, ?_⟩; gi_at_call 60; refine (backward_in Fence.wide (8 - 1) trivial rfl _ _ _ _).mono ?_; rintro e w' ⟨rfl, rfl⟩)
  have kW : Kp no w (w.alloc (.cells #[.slice pa Q.length pc] 90)) := Kp.alloc w _
  have szW : (w.alloc (.cells #[.slice pa Q.length pc] 90)).heap.size = w.heap.size + 1 := by simp
  have bxB : Boxed (w.alloc (.cells #[.slice pa Q.length pc] 90)) w.heap.size 90 (.slice pa Q.length pc) := Boxed.new w 90 _
  obtain ⟨W0, hW0⟩ : ∃ W0, w.alloc (.cells #[.slice pa Q.length pc] 90) = W0 := ⟨_, rfl⟩
  rw [hW0] at kW szW bxB ⊢
  clear hW0
  have hb1 : Below w0.heap.size w0 W0 := hb0.trans (kW.below hb0.size fun _ _ h => h)
  have e1l := bx1.lt
  have e2l := bx2.lt
  have e3l := bx3.lt
  have bx1' := kp_boxed kW bx1
  have bx2' := kp_boxed kW bx2
  have bx3' := kp_boxed kW bx3
  have w0l := hb0.size
  refine wpIn_rangeFunc_ownH rfl (by decide) (gf := 104) (lb := #[.pointer (some ⟨w.heap.size, 0, none⟩)]) rfl trivial (enters_of Tryz.func104 (by kernel_rfl) rfl)
    (back_stops (α := {x : Nat × PD // GoodP w x.2}) (fun x => x.1.1) (fun x => x.1.2) Fence.wide (8 - 1) trivial rfl (by decide) w.heap.size W0.heap.size pa pc Q.length xs hxl (by omega) W0 (by omega) (Nat.le_refl _) bxB.cell ?hI) belowK_t (belowK_b (Nat.le_refl _)) (Below.refl _ _) (fun _ => rfl)
    (fun pre W => (∀ y ∈ pre, y.1.2.sec ≠ (iN : Int)) ∧ Below W0.heap.size W0 W)
    (fun c pre W => ((c = .ret ∧ ∃ pre' x, pre = pre' ++ [x] ∧ (∀ y ∈ pre', y.1.2.sec ≠ (iN : Int)) ∧ x.1.2.sec = (iN : Int) ∧ ∃ (a' : Option Addr) (c' : Nat), Boxed W e2 70 (.slice a' 512 c') ∧ Sl W T_uint8 1 a' 512 c' (bvs x.1.2.bs) ∧ Fresh w0 a' ∧ Boxed W e3 49 (.int .i64 0))) ∧ Below w0.heap.size w0 W)
    (OwnFrom.and (ownFrom_pure _ _) (ownFrom_below (Nat.le_refl _) (Nat.le_refl _)))
    (fun c => OwnFrom.and (fun s X Y row hs hg hr => ?hown) (ownFrom_below (Nat.le_refl _) (by omega)))
    ⟨fun y hy => absurd hy (by simp), Below.refl _ _⟩
    (fun x a' W => ∃ Bx, W0.heap.size ≤ Bx ∧ Blk W Bx #[.int .i64 x.1.2.sec, .slice x.1.2.a x.1.2.bs.length x.1.2.c] 93 ∧ a' = { tmps := #[.pointer (some ⟨b, 0, none⟩), u1, u2, .pointer (some ⟨e1, 0, none⟩), .pointer (some ⟨e2, 0, none⟩), .pointer (some ⟨e3, 0, none⟩), u6, .pointer (some ⟨Bx, 0, none⟩), u8, u9, u10, u11, u12, u13, u14, u15, u16, u17, u18, u19, u20, u21, .pointer (some ⟨b, 0, none⟩), .pointer (some ⟨b, 0, none⟩), .pointer (some ⟨b, 1, none⟩), .slice pa Q.length pc, .func (.func 104) #[] #[.pointer (some ⟨w.heap.size, 0, none⟩)], .int .i64 ((x.1.1 : Nat) : Int), pdAgg x.1.2, u29, u30, u31, u32, u33, u34, u35, u36, u37, u38, u39], defers := [] })
    (fun x a' _ X Y row hs hg hr => ?hax)
    ?assign ?body ?done ?stop
  case hI =>
    rcases hI with h | ⟨b', hpa, hlt, hc⟩
    · exact .inl h
    · refine .inr ⟨b', hpa, by omega, fun k hk => ⟨hxi k hk, ?_, ?_⟩⟩
      · rw [hxp k hk]
        refine kW.cell (hc _ _ ?_) id
        have := flatV_get PD.cs_len Q (Q.length - 1 - k) (by omega) 0 (by omega)
        rw [Nat.add_zero] at this
        unfold fP
        rw [this]
        rfl
      · rw [hxp k hk]
        refine kW.cell (hc _ _ ?_) id
        unfold fP
        rw [flatV_get PD.cs_len Q (Q.length - 1 - k) (by omega) 1 (by omega)]
        rfl
  case hown =>
    obtain ⟨hc, pre', x, hp, hpn, hxs, a', c', q1, q2, q3, q4⟩ := hs
    have hr' : ∀ r, row = some r → ∃ o : Obj, X.heap[r]? = some o ∧ o.isCells = false := fun r e => (hr r e).2
    exact ⟨hc, pre', x, hp, hpn, hxs, a', c', boxed_own e2 70 (fun (_ : Unit) => Value.slice a' 512 c') () X Y row q1 hg hr', sl_grown q2 hg hr', q3, boxed_own e3 49 (fun (_ : Unit) => Value.int .i64 0) () X Y row q4 hg hr'⟩
  case hax =>
    obtain ⟨Bx, q1, q2, q3⟩ := hs
    exact ⟨Bx, q1, (grownBy_keeps_cells hg (fun r e => (hr r e).2) q2 rfl).trans q2, q3⟩
  case assign =>
    rintro l pre x W K ⟨hp, hB⟩ hK
    simp only [pdAgg]
    gi_wp2
    exact hK _ _ ((KeepsOthers.alloc _ _).from _) ((Below.refl _ W).alloc hB.size _) ⟨hp, hB.alloc hB.size _⟩ ⟨W.heap.size, hB.size, World.alloc_heap_new W _, rfl⟩
  case body =>
    rintro l pre x a' W hl ⟨r, hr⟩ ⟨hp, hB⟩ ⟨Bx, hBx, bX, rfl⟩ hlt
    have cX0 : W.cell? ⟨Bx, 0, none⟩ = some (.int .i64 x.1.2.sec) := bX.cell 0
    have cX1 : W.cell? ⟨Bx, 1, none⟩ = some (.slice x.1.2.a x.1.2.bs.length x.1.2.c) := bX.cell 1
    have c1 := (below_boxed hB bx1' (by omega)).cell
    have d2 := below_boxed hB bx2' (by omega)
    have d3 := below_boxed hB bx3' (by omega)
    have hwW : Below w.heap.size w W := (kW.below (Nat.le_refl _) fun _ _ h => h).trans (hB.mono (by omega))
    by_cases hs : x.1.2.sec = (iN : Int)
    · have htest : (x.1.2.sec == (iN : Int)) = true := by simp [hs]
      have hgood := x.2
      have hclone : Calls Tryz.prog 61 #[.slice x.1.2.a x.1.2.bs.length x.1.2.c] W fun e w' => ∃ (a' : Option Addr) (c' : Nat), e = .returned (.slice a' 512 c') ∧ Sl w' T_uint8 1 a' 512 c' (bvs x.1.2.bs) ∧ Kp no W w' ∧ Fresh W a' := by
        refine (clone_c (rd_below hgood.1 hwW) rfl (fun h0 => ?_) (by rw [hgood.2]; omega) fun a' c' w' hsl kk hfr _ => ⟨a', c', ?_, ?_, kk, hfr⟩).2
        · rw [hgood.2]
          obtain ⟨_, _, he, _⟩ := hgood.1 0 (bv (x.1.2.bs[0]'(by rw [hgood.2]; omega))) (bvs_get _)
          rw [h0] at he
          cases he
        · rw [hgood.2]
        · rw [hgood.2] at hsl; exact hsl
      gi_wp2_with (refine ⟨trivial, ?_⟩; gi_at_call 61; refine (CallsIn.inRound l (callsIn_wide.2 hclone)).mono ?_; rintro e w' ⟨a', c', rfl, hsl, kk, hfr⟩; have g2 := (kp_boxed kk d2).cell; have g2f := (kp_boxed kk d2).frozen; have g3 := (kp_boxed kk d3).cell; have g3f := (kp_boxed kk d3).frozen)
      obtain ⟨q1, q2, q3, q4, q5, q6⟩ := ret_facts (hb1.trans (hB.mono (by omega))) hl2 hl3 h23 kk d2 d3 hsl hfr
      exact ⟨q4.from _, ⟨rfl, pre, x, rfl, hp, hs, a', c', q1, q3, q6, q2⟩, q5⟩
    · have htest : (x.1.2.sec == (iN : Int)) = false := by simp [hs]
      gi_wp2
      exact ⟨KeepsFrom.refl _ _, Below.refl _ _, fun y hy => (List.mem_append.1 hy).elim (hp y) (fun e => by rw [List.mem_singleton] at e; rw [e]; exact hs), hB⟩
  case done =>
    rintro D ys W hD hys ⟨hp, hB⟩ hK
    rw [hys] at hp
    clear hys
    have hwW : Below w.heap.size w W := (kW.below (Nat.le_refl _) fun _ _ h => h).trans (hB.mono (by omega))
    have c1 := (below_boxed hB bx1' (by omega)).cell
    have d2 := below_boxed hB bx2' (by omega)
    have d3 := below_boxed hB bx3' (by omega)
    have hsec : Calls Tryz.prog 62 #[.pointer (some ⟨b, 0, none⟩), .int .i64 (iN : Int)] W fun e w' => e = .returned (.slice (subA ia ic (iN * 512) 1) 512 (ic - iN * 512)) ∧ w' = W :=
      (sector_c (n := n) (i := iN) ((hwW.cell (p := ⟨b, 0, none⟩) (cell_lt him)).trans him) hn hic hiN ⟨rfl, rfl⟩).2
    have hsl0 : ((img.drop (iN * 512)).take 512).length = 512 := by simp; omega
    have hrd : Rd W (subA ia ic (iN * 512) 1) (bvs ((img.drop (iN * 512)).take 512)) := by rw [← bvs_take]; exact (rd_drop (rd_below hir hwW) (by omega)).take _
    have hclone : Calls Tryz.prog 61 #[.slice (subA ia ic (iN * 512) 1) 512 (ic - iN * 512)] W fun e w' => ∃ (a' : Option Addr) (c' : Nat), e = .returned (.slice a' 512 c') ∧ Sl w' T_uint8 1 a' 512 c' (bvs ((img.drop (iN * 512)).take 512)) ∧ Kp no W w' ∧ Fresh W a' := by
      refine (clone_c hrd hsl0 (fun h0 => ?_) (by omega) fun a' c' w' hsl kk hfr _ => ⟨a', c', rfl, hsl, kk, hfr⟩).2
      obtain ⟨_, _, he, _⟩ := hrd 0 (bv (((img.drop (iN * 512)).take 512)[0]'(by omega))) (bvs_get _)
      rw [h0] at he
      cases he
    have hbs : (img.drop (iN * 512)).take 512 = bytes := by
      rw [← hbytes, readL_none]
      intro p hp'
      obtain ⟨x, hx, rfl⟩ := List.mem_map.1 hp'
      have : x ∈ xs.map fun x => x.1.2 := by rw [hxv]; simpa using hx
      obtain ⟨y, hy, rfl⟩ := List.mem_map.1 this
      exact hp y hy
    rw [hbs] at hclone
    clear hrd
    gi_wp2_with (first | (refine ⟨trivial, ?_⟩; gi_at_call 62; refine (callsIn_wide.2 hsec).mono ?_; rintro e w' ⟨rfl, rfl⟩) | (refine ⟨trivial, ?_⟩; gi_at_call 61; refine (callsIn_wide.2 hclone).mono ?_; rintro e w' ⟨a', c', rfl, hsl, kk, hfr⟩; have g2 := (kp_boxed kk d2).cell; have g2f := (kp_boxed kk d2).frozen; have g3 := (kp_boxed kk d3).cell; have g3f := (kp_boxed kk d3).frozen))
    obtain ⟨q1, q2, q3, q4, q5, q6⟩ := ret_facts (hb1.trans (hB.mono (by omega))) hl2 hl3 h23 kk d2 d3 hsl hfr
    have hK2 := q4.same D _ hK rfl
    refine ⟨by simp, .inl ⟨_, _, rfl, run_takeDeferred hK2, ?_⟩⟩
    have hg := grownBy_putObj' ((w'.setCell ⟨e2, 0, none⟩ (.slice a' 512 c')).setCell ⟨e3, 0, none⟩ (.int .i64 0)) D (.deferred none)
    have hr : ∀ r, some D = some r → ∃ o : Obj, ((w'.setCell ⟨e2, 0, none⟩ (.slice a' 512 c')).setCell ⟨e3, 0, none⟩ (.int .i64 0)).heap[r]? = some o ∧ o.isCells = false := fun r e => by cases e; exact ⟨_, hK2, rfl⟩
    have hc2 := cell_kept q1.cell hg hr
    have hc3 := cell_kept q2.cell hg hr
    refine ⟨_, ?_, hR _ _ ⟨a', c', rfl, sl_grown q3 hg hr, q5.trans (belowK_b (w := w0) (Nat.le_refl _) _ D _ _ (by omega) hK2 rfl rfl), q6⟩⟩
    simp [results, Tryz.f22, go_sem, hc2, hc3]
  case stop =>
    rintro D c pre W hD ⟨k, hk, hpre⟩ ⟨⟨rfl, pre', x, hpx, hpn, hxs, a', c', q1, q2, q3, q4⟩, q5⟩ hK
    have hbs : x.1.2.bs = bytes := by
      have e1 : Q.reverse = (pre'.map fun x => x.1.2) ++ x.1.2 :: ((xs.drop k).map fun x => x.1.2) := by
        rw [← hxv]
        conv => lhs; rw [← List.take_append_drop k xs, ← hpre, hpx]
        simp
      have e2 : Q = (((xs.drop k).map fun x => x.1.2).reverse ++ [x.1.2]) ++ (pre'.map fun x => x.1.2).reverse := by
        have := congrArg List.reverse e1
        rw [List.reverse_reverse] at this
        rw [this]
        simp
      rw [← hbytes, e2, List.map_append, List.map_append, readL_app, readL_none, readL_app]
      · simp [readL, PD.v, hxs]
      · intro p hp'
        obtain ⟨y, hy, rfl⟩ := List.mem_map.1 hp'
        rw [List.mem_reverse] at hy
        obtain ⟨z, hz, rfl⟩ := List.mem_map.1 hy
        exact hpn z hz
    rw [hbs] at q2
    gi_wp2
    refine ⟨by simp, .inl ⟨_, _, rfl, run_takeDeferred hK, ?_⟩⟩
    have hg := grownBy_putObj' W D (.deferred none)
    have hr : ∀ r, some D = some r → ∃ o : Obj, W.heap[r]? = some o ∧ o.isCells = false := fun r e => by cases e; exact ⟨_, hK, rfl⟩
    have hc2 := cell_kept q1.cell hg hr
    have hc3 := cell_kept q4.cell hg hr
    refine ⟨_, ?_, hR _ _ ⟨a', c', rfl, sl_grown q2 hg hr, q5.trans (belowK_b (w := w0) (Nat.le_refl _) W D _ _ (by omega) hK rfl rfl), q3⟩⟩
    simp [results, Tryz.f22, go_sem, hc2, hc3]
end
theorem clip_calls (w : World) (a : Option Addr) (l c : Nat) (h : l ≤ c) : Calls Tryz.prog F_slices_Clip_s_byte_byte #[.slice a l c] w fun e w' => w' = w ∧ e = .returned (.slice a l l) := by
  go_enter Tryz.func79, Tryz.ntmps79
  go_wp2
  all_goals go_ret
  all_goals trivial
theorem kp_below {w W : World} (h : Below w.heap.size w W) : Kp no w W := ⟨h.os, h.tape, h.output, h.size, fun k hk _ => h.block k hk⟩
theorem clip_c {w : World} {a : Option Addr} {l c : Nat} {R : Po} (h : l ≤ c) (hK : R (.returned (.slice a l l)) w) : GoC Tryz.prog F_slices_Clip_s_byte_byte #[.slice a l c] w R :=
  ⟨by kernel_rfl, (clip_calls w a l c h).mono fun e w' ⟨h1, h2⟩ => by rw [h1, h2]; exact hK⟩
set_option maxRecDepth 100000 in
theorem read_c {w : World} {ow : Nat → Nat} {t b kc : Nat} {H : Dh} {Q : List PD} {ka : Option Addr} {v : Dv} {i : Int} {R : Po} (h : DP w ow t b H Q ka kc v) (hq : Q.length ≤ 1000000)
    (hK : ∀ a' l' c' w', Kp no w w' → Sl w' T_uint8 1 a' l' c' (bvs (v.read i).1) → Fresh w a' → R (.returned (.tuple #[.slice a' l' c', .int .i64 ((v.read i).2 : Int)])) w') :
    GoC Tryz.prog F_sectors_Device_Read #[.pointer (some ⟨b, 0, none⟩), .int .i64 i] w R := by
  have hok := h.l.ok
  have hlen := hok.len
  have hn2 := hok.n2
  refine ⟨by kernel_rfl, callsIn_wide.1 (rd_head (n := 8) (H := fun x0 x3 x4 x5 w' => ∃ e1 e2 e3, x0 = .pointer (some ⟨b, 0, none⟩) ∧ x3 = .pointer (some ⟨e1, 0, none⟩) ∧ x4 = .pointer (some ⟨e2, 0, none⟩) ∧ x5 = .pointer (some ⟨e3, 0, none⟩) ∧ Kp no w w' ∧ w.heap.size ≤ e2 ∧ w.heap.size ≤ e3 ∧ e2 ≠ e3 ∧
    Boxed w' e1 3 (.int .i64 i) ∧ Boxed w' e2 70 (.slice none 0 0) ∧ Boxed w' e3 49 (.int .i64 0) ∧ v.down = false ∧ v.there i) ?_ ?_)⟩
  · unfold W_rd
    refine AlF.intro fun b1 w1 hb1e hb1 k1 s1 => AlF.intro fun b2 w2 hb2e hb2 k2 s2 => AlF.intro fun b3 w3 hb3e hb3 k3 s3 => ?_
    have k03 := (k1.trans0 k2).trans0 k3
    have h3 := h.kp0 k03
    have g1 := (k2.trans0 k3).blk hb1 id
    have g2 := k3.blk hb2 id
    have fin : ∀ (w' w4 : World) (n : Int), Kp no w w' → Blk w' b2 #[.slice none 0 0] T_s_uint8 → Blk w' b3 #[.int .i64 0] T_api_Errno → ((v.read i).1 = [] ∧ ((v.read i).2 : Int) = n) →
        StF w' ⟨b2, 0, none⟩ (.slice none 0 0) fun w4 => (StF w4 ⟨b3, 0, none⟩ (.int .i64 n) fun w5 => (∃ (a1 : Option Addr) (l1 c1 : Nat), w5.cell? ⟨b2, 0, none⟩ = some (.slice a1 l1 c1) ∧ (∃ (n2 : Int), w5.cell? ⟨b3, 0, none⟩ = some (.int .i64 n2) ∧ (R (.returned (.tuple #[(.slice a1 l1 c1), (.int .i64 n2)])) w5)))) := by
      intro w' _ n k' x2 x3 hr
      refine StF.at rfl x2 (by simp) fun w4 y2 k4 s4 => StF.at rfl (k4.blk x3 (by omega)) (by simp) fun w5 y3 k5 s5 => ?_
      have y2' := k5.blk y2 (by omega)
      refine ⟨none, 0, 0, y2'.cell 0, n, y3.cell 0, ?_⟩
      have := hK none 0 0 w5 (kp_blk (kp_blk k' (by omega) k4) (by omega) k5) (by rw [hr.1]; exact Sl.nil _ _ _) (fun k hk => (is_none hk).elim)
      rw [hr.2] at this
      exact this
    refine ⟨v.down, cN h3.hb rfl, cond_b (fun hd => ?_) (fun hd => ?_)⟩
    · exact fin w3 w3 40 k03 g2 hb3 (by unfold Dv.read; rw [if_pos hd]; exact ⟨rfl, rfl⟩)
    · have kd : Kp no w3 w3.drew := Kp.drew w3 1
      refine ⟨fun w' => Kp no w3 w', kd, i, fun w' kz => (kz.blk g1 id).cell 0, cond_d (fun hlt => ?_) (fun hge => ?_)⟩
      · refine fin _ w3 41 (k03.trans0 kd) (kd.blk g2 id) (kd.blk hb3 id) ?_
        unfold Dv.read
        rw [hd, if_neg (by decide), if_pos (by unfold Dv.there; omega)]
        exact ⟨rfl, rfl⟩
      · refine ⟨i, fun w' kz => (kz.blk g1 id).cell 0, sectors_c (c0 (kd.blk h3.hb id) rfl) (by rw [hlen]; omega) ⟨_, rfl, kd, cond_d (fun hge2 => ?_) (fun hlt2 => ?_)⟩⟩
        · refine fin _ w3 41 (k03.trans0 kd) (kd.blk g2 id) (kd.blk hb3 id) ?_
          unfold Dv.read
          rw [hd, if_neg (by decide), if_pos (by unfold Dv.there Dv.n; omega)]
          exact ⟨rfl, rfl⟩
        · exact ⟨b1, b2, b3, rfl, rfl, rfl, rfl, k03.trans0 kd, by omega, by omega, by omega, kd.blk g1 id, kd.blk g2 id, kd.blk hb3 id, hd, by unfold Dv.there Dv.n; omega⟩
  · rintro a w' hsz hdf ⟨e1, e2, e3, h0, h3, h4, h5, k', hl2, hl3, h23, bx1, bx2, bx3, hd, hth⟩
    have hp := h.kp0 k'
    have hiN : i = ((i.toNat : Nat) : Int) := by have := hth.1; omega
    have hpl := hp.l.pl.sl
    rw [hiN] at bx1
    refine rd_rest (w0 := w) (iN := i.toNat) (n := v.n) (ic := H.ic) (ia := H.ia) (img := v.img) (pa := H.pa) (pc := H.pc) (Q := Q) (fun e W' hR => ?_) hsz hdf h0 h3 h4 h5 (k'.below (Nat.le_refl _) fun _ _ h => h) hl2 hl3 h23 bx1 bx2 bx3 ?_ ?_ (fun x hx => ⟨(hp.l.pb x hx).sl.rd, ?_⟩) hq ?_ hn2 ?_ (by have := hth.1; have := hth.2; omega) hp.l.im.sl.rd hlen
    · obtain ⟨a', c', rfl, hs, hb, hf⟩ := hR
      have e : v.read i = (readL (i.toNat : Int) (Q.map PD.v) ((v.img.drop (i.toNat * 512)).take 512), 0) := by
        unfold Dv.read Dv.sect
        rw [hd, if_neg (by decide), if_neg (by simpa using hth), ← hiN, h.l.qv]
      have := hK a' 512 c' W' (kp_below hb) (by rw [e]; exact hs) hf
      rw [e] at this
      exact this
    · rw [hp.hb.cell]; rfl
    · rcases hpl.2.2 with ⟨q1, q2⟩ | ⟨b', cur, q1, q2, q3, q4⟩
      · exact .inl ⟨q1, by have := hpl.2.1; omega, q2⟩
      · refine .inr ⟨b', q1, q2.lt, fun j u hu => ?_⟩
        obtain ⟨b2, o2, he, hc⟩ := hpl.rd j u hu
        rw [q1] at he
        cases he
        rwa [Nat.zero_add] at hc
    · exact (hok.q _ (by rw [h.l.qv]; exact List.mem_map_of_mem hx)).2.2
    · rw [← hlen]; exact c0 hp.hb rfl
    · have := hp.l.im.sl.2.1; omega
def DX (w : World) (ow : Nat → Nat) (t b : Nat) (v : Dv) : Prop := ∃ (H : Dh) (Q : List PD) (ka : Option Addr) (kc : Nat), DP w ow t b H Q ka kc v
theorem DX.fr {T : Nat → Prop} {w w' : World} {ow ow' : Nat → Nat} {t b : Nat} {v : Dv} (h : DX w ow t b v) (f : Fro T w ow w' ow') (h0 : T t) (h1 : T (t + 1)) (h2 : T (t + 2)) (h3 : T (t + 3)) : DX w' ow' t b v := by
  obtain ⟨H, Q, ka, kc, h⟩ := h
  exact ⟨H, Q, ka, kc, h.fr f h0 h1 h2 h3⟩
theorem DX.kp0 {w w' : World} {ow : Nat → Nat} {t b : Nat} {v : Dv} (h : DX w ow t b v) (k : Kp no w w') : DX w' ow t b v := h.fr (Fro.kp0 k) trivial trivial trivial trivial
theorem DX.ok {w : World} {ow : Nat → Nat} {t b : Nat} {v : Dv} (h : DX w ow t b v) : v.Ok := by
  obtain ⟨H, Q, ka, kc, h⟩ := h
  exact h.l.ok
section
variable {w : World} {ow : Nat → Nat} {t b : Nat} {v : Dv} {R : Po}
theorem size_c (h : DX w ow t b v) (hK : R (.returned (.int .i64 (v.n : Int))) w) : GoC Tryz.prog F_sectors_Device_Sectors #[.pointer (some ⟨b, 0, none⟩)] w R := by
  obtain ⟨H, Q, ka, kc, h⟩ := h
  have := h.l.ok.len
  have := h.l.ok.n2
  exact sectors_c (c0 h.hb rfl) (by omega) (by have e : v.img.length / 512 = v.n := rfl; rw [e]; exact hK)
theorem down_c (h : DX w ow t b v) (hK : R (.returned (.bool v.down)) w) : GoC Tryz.prog F_sectors_Device_Down #[.pointer (some ⟨b, 0, none⟩)] w R := by
  obtain ⟨H, Q, ka, kc, h⟩ := h
  refine S_sectors_Device_Down ?_
  exact ⟨_, cN h.hb rfl, hK⟩
theorem calls_c (h : DX w ow t b v) (hK : R (.returned (.int .i64 v.calls)) w) : GoC Tryz.prog F_sectors_Device_Calls #[.pointer (some ⟨b, 0, none⟩)] w R := by
  obtain ⟨H, Q, ka, kc, h⟩ := h
  refine S_sectors_Device_Calls ?_
  exact ⟨_, cN h.hb rfl, hK⟩
theorem up_c (h : DX w ow t b v) (hK : ∀ w' ow', DX w' ow' t b v.up → Fro (Td t) w ow w' ow' → R (.returned (.int .i64 0)) w') : GoC Tryz.prog F_sectors_Device_Up #[.pointer (some ⟨b, 0, none⟩)] w R := by
  obtain ⟨H, Q, ka, kc, h⟩ := h
  refine S_sectors_Device_Up ?_
  unfold W_sectors_Device_Up
  refine NilF.intro rfl (stb (add1 b 6) h.hb h.bt (by simp [Dh.cs]) fun w1 hb1 f1 s1 => NilF.intro rfl (stb (add1 b 2) hb1 h.bt (by simp [Dh.cs]) fun w2 hb2 f2 s2 => ?_))
  have f := f1.trans f2
  have l2 := h.l.fr f (by omega) (by omega) (by omega)
  exact hK w2 ow ⟨H, Q, ka, kc, ⟨l2.im, l2.pl, l2.pb, l2.qv, h.l.ok.up⟩, hb2, h.bt, h.kp.fr f (by omega)⟩ (f.mono fun u hu => hu.1)
theorem readX_c {i : Int} (h : DX w ow t b v) (hq : v.q.length ≤ 1000000)
    (hK : ∀ a' l' c' w', Kp no w w' → Sl w' T_uint8 1 a' l' c' (bvs (v.read i).1) → Fresh w a' → R (.returned (.tuple #[.slice a' l' c', .int .i64 ((v.read i).2 : Int)])) w') :
    GoC Tryz.prog F_sectors_Device_Read #[.pointer (some ⟨b, 0, none⟩), .int .i64 i] w R := by
  obtain ⟨H, Q, ka, kc, h⟩ := h
  exact read_c h (by have := h.l.qv; rw [this] at hq; simpa using hq) hK
theorem crash_c {la : Option Addr} {lc : Nat} {keep : List Nat} {torn off : Int} (h : DX w ow t b v) (hl : Ls w ow t la keep) (hq : v.q.length ≤ 1000000)
    (hK : ∀ w' ow', DX w' ow' t b (v.crash keep torn off).2 → Fro (Td t) w ow w' ow' → R (.returned (.int .i64 ((v.crash keep torn off).1 : Int))) w') :
    GoC Tryz.prog F_sectors_Device_Crash #[.pointer (some ⟨b, 0, none⟩), .agg #[.slice la keep.length lc, .int .i64 torn, .int .i64 off]] w R := by
  obtain ⟨H, Q, ka, kc, h⟩ := h
  refine S_sectors_Device_Crash ?_
  unfold W_sectors_Device_Crash
  refine AlF.intro fun b1 w1 hb1e hb1 k1 s1 => ?_
  have f1 : Fro (fun _ => True) w ow w1 (ext ow w.heap.size (t + 3)) := Fro.of_kp0 (t + 3) k1
  have h1 := h.fr f1 trivial trivial trivial trivial
  have hl1 := hl.fr f1 fun _ _ => trivial
  refine ⟨v.down, cN h1.hb rfl, cond_b (fun hd => ?_) (fun hd => ?_)⟩
  · have e : v.crash keep torn off = (40, v) := by unfold Dv.crash; rw [if_pos hd]
    have := hK w1 _ (by rw [e]; exact ⟨H, Q, ka, kc, h1⟩) (f1.mono fun _ _ => trivial)
    rw [e] at this
    exact this
  · have e : v.crash keep torn off = (0, v.fall keep torn off) := by unfold Dv.crash; rw [hd, if_neg (by decide)]
    refine ⟨_, _, _, _, _, ⟨c0 hb1 rfl, cN hb1 rfl, cN hb1 rfl, trivial⟩, fall_c h1 hl1 (by have := h.l.qv; rw [this] at hq; simpa using hq) fun H' w' ow' h' f' => ⟨_, rfl, ?_⟩⟩
    have := hK w' ow' (by rw [e]; exact ⟨H', [], none, 0, h'⟩) ((f1.mono fun _ _ => trivial).trans (f'.mono fun u hu => ⟨hu.1, hu.2.1⟩))
    rw [e] at this
    exact this
theorem kp_ls {ka : Option Addr} {kc : Nat} {H : Dh} {Q : List PD} (h : DP w ow t b H Q ka kc v) (hln : v.keep.length * 8 ≤ 140737488355328) : Ls w ow t ka v.keep :=
  ⟨h.kp.rdT.mono fun u hu => ⟨by omega, by omega, by omega⟩, h.l.ok.keep, hln, fun h0 => by have := h.kp.sl; rw [h0] at this; exact (this.zero).1⟩
theorem sync_c (h : DX w ow t b v) (hq : v.q.length ≤ 1000000) (hln : v.keep.length * 8 ≤ 140737488355328) (hK : ∀ w' ow', DX w' ow' t b v.sync.2 → Fro (Td t) w ow w' ow' → R (.returned (.int .i64 (v.sync.1 : Int))) w') :
    GoC Tryz.prog F_sectors_Device_Sync #[.pointer (some ⟨b, 0, none⟩)] w R := by
  obtain ⟨H, Q, ka, kc, h⟩ := h
  have hql : v.q.length = Q.length := by rw [h.l.qv]; simp
  refine S_sectors_Device_Sync ?_
  unfold W_sectors_Device_Sync
  refine ⟨v.down, cN h.hb rfl, cond_b (fun hd => ?_) (fun hd => ?_)⟩
  · have e : v.sync = (40, v) := by unfold Dv.sync; rw [if_pos hd]
    have := hK w ow (by rw [e]; exact ⟨H, Q, ka, kc, h⟩) ⟨Kp.refl _ _, fun _ _ _ => rfl⟩
    rw [e] at this
    exact this
  refine crashes_c h fun w1 h1 f1 => ⟨_, rfl, cond_d (fun hs => ?_) (fun hs => ?_)⟩
  · have e : v.sync = (40, v.bump.fall v.keep v.torn v.off) := by unfold Dv.sync; rw [hd, if_neg (by decide), if_pos hs]
    refine ⟨_, _, _, _, _, ⟨cN h1.hb rfl, cNM h1.hb rfl, cNM h1.hb rfl, trivial⟩, fall_c (v := v.bump) (keep := v.keep) h1 (kp_ls (v := v.bump) h1 hln) (by omega) fun H' w' ow' h' f' => ⟨_, rfl, ?_⟩⟩
    have := hK w' ow' (by rw [e]; exact ⟨H', [], none, 0, h'⟩) ((f1.mono fun u hu => hu.1).trans (f'.mono fun u hu => ⟨hu.1, hu.2.1⟩))
    rw [e] at this
    exact this
  have e : v.sync = (0, v.bump.synced) := by unfold Dv.sync; rw [hd, if_neg (by decide), if_neg hs]
  have hok := h1.l.ok
  have hn2 := hok.n2
  have hlen : v.img.length = v.n * 512 := hok.len
  have hnn : v.bump.n = v.n := rfl
  refine ⟨_, _, _, cN h1.hb rfl, ?_⟩
  have hQv : ∀ k (hk : k < Q.length), v.q[k]? = some ((Q[k]).sec, (Q[k]).bs) := fun k hk => by rw [h.l.qv]; simp [hk, PD.v]
  refine loopN (fun s w' => ∃ (k : Nat) (ow' : Nat → Nat) (img : List UInt8), s.1 = (k : Int) ∧ k ≤ Q.length ∧ img.length = v.n * 512 ∧ syncL (v.q.drop k) img = syncL v.q v.img ∧ SlT w' ow' T_uint8 1 H.ia (v.n * 512) H.ic (bvs img) (t + 1) ∧ Fro (fun u => u ≠ t + 1) w1 ow w' ow') (fun s _ => Q.length - s.1.toNat)
    ⟨0, ow, v.img, rfl, by omega, hlen, by simp, by have : SlT w1 ow T_uint8 1 H.ia v.img.length H.ic (bvs v.img) (t + 1) := h1.l.im; rw [hlen] at this; exact this, ⟨Kp.refl _ _, fun _ _ _ => rfl⟩⟩ ?_
  rintro ⟨k0, u⟩ w2 ⟨k, ow2, img, hk0, hk, hil, hfl, him, f2⟩ _
  dsimp only at hk0 ⊢
  subst hk0
  refine cond_d (fun hlt => ?_) (fun hge => ?_)
  · have hkl : k < Q.length := by omega
    have hkw : IntKind.wrap .i64 ((k : Int) + 1) = ((k + 1 : Nat) : Int) := by rw [wrap_i64 (by omega) (by omega)]; omega
    rw [hkw]
    have hpl2 := h1.l.pl.fr f2 (by omega)
    have hqk := hok.q ((Q[k]).sec, (Q[k]).bs) (List.mem_of_getElem? (hQv k hkl))
    dsimp only at hqk
    have hpb := (h1.l.pb _ (List.getElem_mem hkl)).fr f2 (by omega)
    refine pdI hpl2.sl.rd hkl rfl rfl ?_
    have hsec : (Q[k]).sec = (((Q[k]).sec.toNat : Nat) : Int) := by omega
    generalize hx : Q[k] = x at *
    refine AlF.intro fun b2 w3 hb2e hb2 k3 s3 => st2 hb2 fun w5 hb25 k5 s5 => ?_
    have k25 : Kp no w2 w5 := kp_blk k3 (by omega) k5
    have f5 : Fro (fun _ => True) w2 ow2 w5 (ext ow2 w2.heap.size (t + 3)) := Fro.of_kp0 (t + 3) k25
    have ht2 : ext ow2 w2.heap.size (t + 3) b2 = t + 3 := ext_new (by omega)
    have f15 : Fro (fun u => u ≠ t + 1) w1 ow w5 (ext ow2 w2.heap.size (t + 3)) := f2.trans (f5.mono fun _ _ => trivial)
    have him5 := him.fr f5 trivial
    have hpb5 := hpb.fr f5 trivial
    generalize ext ow2 w2.heap.size (t + 3) = ow5 at *
    obtain ⟨hbd6, _⟩ := blk_fr h1.hb h1.bt f15 (by omega)
    have hbd6' : w5.cell? ⟨b, 0, none⟩ = some (.slice H.ia (v.n * 512) H.ic) := by have := c0 hbd6 (v := .slice H.ia v.img.length H.ic) rfl; rwa [hlen] at this
    have hst := syncL_step v.q k img (by omega)
    have hvk : v.q[k]'(by omega) = (x.sec, x.bs) := by have := hQv k hkl; rw [List.getElem?_eq_getElem (by omega)] at this; simp only [hx] at this; exact Option.some.inj this
    rw [hvk] at hst
    dsimp only at hst
    have hx0 : x.a = none → x.bs = [] := fun h0 => by
      have := hpb5.sl
      rw [h0] at this
      obtain ⟨e1, _⟩ := this.zero
      exact List.eq_nil_of_length_eq_zero e1
    have hin : x.sec.toNat < v.n := by omega
    rw [hsec] at hb25
    refine lay_h him5 hn2 hin hbd6' hb25 (by omega) hpb5.sl.rd hx0 (by omega) fun w8 hs8 f8 => ⟨⟨k + 1, ow5, _, rfl, by omega, ?_, by rw [← hst]; exact hfl, hs8, f15.trans f8⟩, by simp only [Int.toNat_natCast]; omega⟩
    rw [ovr_len (by rw [hil]; omega)]
    exact hil
  · have hke : k = Q.length := by omega
    subst hke
    rw [List.drop_eq_nil_of_le (by omega), syncL] at hfl
    obtain ⟨hbd, hbt⟩ := blk_fr h1.hb h1.bt f2 (by omega)
    refine NilF.intro rfl (stb (add1 b 1) hbd hbt (by simp [Dh.cs]) fun w11 hb11 f11 s11 => ?_)
    have hlen' : (syncL v.q v.img).length = v.img.length := by rw [← hfl, hil]; exact hlen.symm
    have := hK w11 ow2 (by
      rw [e]
      refine ⟨⟨H.ia, H.ic, none, 0⟩, [], ka, kc, ⟨?_, slt_nil _ _ _ _ _, fun x hx => absurd hx (by simp), rfl, hok.synced⟩, ?_, hbt, (h1.kp.fr f2 (by omega)).fr f11 (by omega)⟩
      · show SlT w11 ow2 T_uint8 1 H.ia (syncL v.q v.img).length H.ic (bvs (syncL v.q v.img)) (t + 1)
        rw [← hfl, hil]
        exact him.fr f11 (by omega)
      · show Blk w11 b #[.slice H.ia (syncL v.q v.img).length H.ic, .slice none 0 0, .int .i64 v.bump.step, .slice ka v.keep.length kc, .int .i64 v.torn, .int .i64 v.off, .bool v.down, .int .i64 v.bump.calls] T_sectors_Device
        rw [hlen']
        exact hb11) (((f1.mono fun u hu => hu.1).trans (f2.mono fun u hu => hu.2.1)).trans (f11.mono fun u hu => hu.1))
    rw [e] at this
    exact this
end
structure Bs (w : World) (ow : Nat → Nat) (t : Nat) (a : Option Addr) (bs : List UInt8) : Prop where
  rd : RdT w ow (Td t) a (bvs bs)
  ln : bs.length ≤ 140737488355328
  nn : a = none → bs.length = 0
theorem Bs.fr {T : Nat → Prop} {w w' : World} {ow ow' : Nat → Nat} {t : Nat} {a : Option Addr} {bs : List UInt8} (h : Bs w ow t a bs) (f : Fro T w ow w' ow') (hT : ∀ u, Td t u → T u) : Bs w' ow' t a bs := ⟨h.rd.fr f hT, h.ln, h.nn⟩
theorem sl_some' {w : World} {e : TypeId} {a : Option Addr} {l c : Nat} {xs : List Value} (h : Sl w e 1 a l c xs) : a = none → l = 0 := fun h0 => by
  rw [h0] at h
  exact h.zero.1
section
variable {w : World} {ow : Nat → Nat} {t b : Nat} {v : Dv} {R : Po}
set_option maxRecDepth 100000 in
theorem write_c {i : Int} {a : Option Addr} {c : Nat} {bs : List UInt8} (h : DX w ow t b v) (hr : Bs w ow t a bs) (hq : v.q.length ≤ 999999) (hln : v.keep.length * 8 ≤ 140737488355328)
    (hK : ∀ w' ow', DX w' ow' t b (v.write i bs).2 → Fro (Td t) w ow w' ow' → R (.returned (.int .i64 ((v.write i bs).1 : Int))) w') :
    GoC Tryz.prog F_sectors_Device_Write #[.pointer (some ⟨b, 0, none⟩), .int .i64 i, .slice a bs.length c] w R := by
  have hX := h
  obtain ⟨H, Q, ka, kc, h⟩ := h
  have hql : v.q.length = Q.length := by rw [h.l.qv]; simp
  refine S_sectors_Device_Write ?_
  unfold W_sectors_Device_Write
  have same : ∀ n, v.write i bs = (n, v) → R (.returned (.int .i64 (n : Int))) w := fun n e => by
    have := hK w ow (by rw [e]; exact hX) ⟨Kp.refl _ _, fun _ _ _ => rfl⟩
    rw [e] at this
    exact this
  refine ⟨v.down, cN h.hb rfl, cond_b (fun hd => ?_) (fun hd => ?_)⟩
  · exact same 40 (by unfold Dv.write; rw [if_pos hd])
  have ed : ∀ {A B : Nat × Dv}, (if v.down then A else B) = B := fun {A B} => by rw [hd, if_neg (by decide)]
  refine cond_d (fun hlt => ?_) (fun hge => ?_)
  · exact same 41 (by unfold Dv.write; rw [ed, if_pos (by unfold Dv.there; omega)])
  refine size_c hX ⟨_, rfl, cond_d (fun hge2 => ?_) (fun hlt2 => ?_)⟩
  · exact same 41 (by unfold Dv.write; rw [ed, if_pos (by unfold Dv.there; omega)])
  have hth : v.there i := by unfold Dv.there; omega
  refine cond_ne (fun hbl => ?_) (fun hbl => ?_)
  · exact same 42 (by unfold Dv.write; rw [ed, if_neg (by simpa using hth), if_pos (by omega)])
  have hb5 : bs.length = 512 := by omega
  refine crashes_c h fun w2 h2 f2 => ⟨_, rfl, ?_⟩
  have hr2 := (hr.fr f2 fun u hu => hu.1).rd.rd
  have kd : Kp no w2 w2.drew := Kp.drew w2 1
  have nb : ¬ Is H.pa b := fun hh => by have := h2.l.pl.tg b hh; have := h2.bt; omega
  refine ⟨fun w' => Kp (Is H.pa) w2 w', kd.of_no, _, _, _, fun w' kz => cN (kz.blk h2.hb nb) rfl, ?_⟩
  refine clone_c (hr2.kp0 kd) rfl hr.nn hr.ln fun a3 c3 w3 hsl3 k3 fr3 _ => ⟨_, _, _, rfl, (kd.trans0 k3).of_no, ?_⟩
  refine AlF.intro fun b1 w4 hb1e hb1 k4 s4 => ⟨((kd.trans0 k3).trans0 k4).of_no, ?_⟩
  have k24 := (kd.trans0 k3).trans0 k4
  have f4 : Fro (fun _ => True) w2 ow w4 (ext ow w2.heap.size (t + 3)) := Fro.of_kp0 (t + 3) k24
  have h4 := h2.fr f4 trivial trivial trivial trivial
  have hb4 : SlT w4 (ext ow w2.heap.size (t + 3)) T_uint8 1 a3 bs.length c3 (bvs bs) (t + 3) := ⟨hsl3.kp0 k4, fun j hj => ext_new (fr3 j hj)⟩
  generalize ext ow w2.heap.size (t + 3) = ow4 at *
  refine app_c er_pd h4.l.pl (rd_cells (xs := PD.cs ⟨i, a3, c3, bs⟩) hb1 rfl) rfl (fun h => by cases h) (fun u hu => by
    simp only [PD.cs, List.mem_cons, List.not_mem_nil, or_false] at hu
    rcases hu with rfl | rfl <;> rfl) (by omega) (by omega) fun a4 c4 w5 hs5 k5 f5 => ⟨_, _, _, rfl, k24.of_no.trans0 k5, ?_⟩
  obtain ⟨hbd5, hbt5⟩ := blk_fr h4.hb h4.bt f5 (by omega)
  refine NilF.intro rfl (stb (add1 b 1) hbd5 hbt5 (by simp [Dh.cs]) fun w6 hb6 f6 s6 => ?_)
  have f46 : Fro (fun u => u ≠ t ∧ u ≠ t + 2) w4 ow4 w6 (ext ow4 w4.heap.size (t + 2)) := (f5.mono fun u hu => hu.2).trans (f6.mono fun u hu => hu.1)
  have hokA := h2.l.ok.add (i := i) (b := bs) hth hb5
  have h6 : DP w6 (ext ow4 w4.heap.size (t + 2)) t b ⟨H.ia, H.ic, a4, c4⟩ (Q ++ [⟨i, a3, c3, bs⟩]) ka kc (v.bump.add i bs) := by
    refine ⟨⟨h4.l.im.fr f46 (by omega), ?_, fun x hx => ?_, ?_, hokA⟩, ?_, hbt5, h4.kp.fr f46 (by omega)⟩
    · have := hs5.fr f6 (by omega)
      rw [List.length_append]
      show SlT w6 _ T_api_Pending 2 a4 (Q.length + 1) c4 (fP (Q ++ [⟨i, a3, c3, bs⟩])) (t + 2)
      have e : fP (Q ++ [⟨i, a3, c3, bs⟩]) = fP Q ++ PD.cs ⟨i, a3, c3, bs⟩ := by unfold fP; rw [flatV_app]; simp [flatV]
      rw [e]
      exact this
    · rcases List.mem_append.1 hx with hx | hx
      · exact (h4.l.pb x hx).fr f46 (by omega)
      · rw [List.mem_singleton] at hx
        subst hx
        exact hb4.fr f46 (by omega)
    · show v.q ++ [(i, bs)] = (Q ++ ([⟨i, a3, c3, bs⟩] : List PD)).map PD.v
      rw [h.l.qv, List.map_append]
      rfl
    · rw [List.length_append]
      exact hb6
  have f06 : Fro (Td t) w ow w6 (ext ow4 w4.heap.size (t + 2)) := ((f2.mono fun u hu => hu.1).trans (f4.mono fun _ _ => trivial)).trans (f46.mono fun u hu => ⟨hu.1, hu.2.2⟩)
  refine cond_d (fun hs => ?_) (fun hs => ?_)
  · have e : v.write i bs = (40, (v.bump.add i bs).fall v.keep v.torn v.off) := by unfold Dv.write; rw [ed, if_neg (by simpa using hth), if_neg (by omega), if_pos hs]
    refine ⟨_, _, _, _, _, ⟨cN h6.hb rfl, cNM h6.hb rfl, cNM h6.hb rfl, trivial⟩, fall_c (v := v.bump.add i bs) (keep := v.keep) h6 (kp_ls (v := v.bump.add i bs) h6 hln) (by rw [List.length_append]; simp; omega) fun H' w' ow' h' f' => ⟨_, rfl, ?_⟩⟩
    have := hK w' ow' (by rw [e]; exact ⟨H', [], none, 0, h'⟩) (f06.trans (f'.mono fun u hu => ⟨hu.1, hu.2.1⟩))
    rw [e] at this
    exact this
  · have e : v.write i bs = (0, v.bump.add i bs) := by unfold Dv.write; rw [ed, if_neg (by simpa using hth), if_neg (by omega), if_neg hs]
    have hX6 : DX w6 (ext ow4 w4.heap.size (t + 2)) t b (v.write i bs).2 := by rw [e]; exact ⟨_, _, _, _, h6⟩
    have := hK w6 _ hX6 f06
    rw [e] at this
    exact this
theorem arm_c {step : Int} {la : Option Addr} {lc : Nat} {keep : List Nat} {torn off : Int} (h : DX w ow t b v) (hl : Ls w ow t la keep) (hs : step ≤ 9223372036854775807)
    (hK : ∀ w' ow', DX w' ow' t b (v.arm step keep torn off).2 → Fro (Td t) w ow w' ow' → R (.returned (.int .i64 ((v.arm step keep torn off).1 : Int))) w') :
    GoC Tryz.prog F_sectors_Device_Arm #[.pointer (some ⟨b, 0, none⟩), .int .i64 step, .agg #[.slice la keep.length lc, .int .i64 torn, .int .i64 off]] w R := by
  obtain ⟨H, Q, ka, kc, h⟩ := h
  refine S_sectors_Device_Arm ?_
  unfold W_sectors_Device_Arm
  refine AlF.intro fun b1 w1 hb1e hb1 k1 s1 => ?_
  have f1 : Fro (fun _ => True) w ow w1 (ext ow w.heap.size (t + 3)) := Fro.of_kp0 (t + 3) k1
  have ht1 : ext ow w.heap.size (t + 3) b1 = t + 3 := ext_new (by omega)
  have h1 := h.fr f1 trivial trivial trivial trivial
  have hl1 := hl.fr f1 fun _ _ => trivial
  generalize ext ow w.heap.size (t + 3) = ow1 at *
  have same : ∀ n, v.arm step keep torn off = (n, v) → R (.returned (.int .i64 (n : Int))) w1 := fun n e => by
    have := hK w1 ow1 (by rw [e]; exact ⟨H, Q, ka, kc, h1⟩) (f1.mono fun _ _ => trivial)
    rw [e] at this
    exact this
  refine ⟨v.down, cN h1.hb rfl, cond_b (fun hd => ?_) (fun hd => cond_d (fun hneg => ?_) (fun hnn => ?_))⟩
  · exact same 40 (by unfold Dv.arm; rw [if_pos hd])
  · exact same 4 (by unfold Dv.arm; rw [hd, if_neg (by decide), if_pos hneg])
  have e : v.arm step keep torn off = (0, { v with step := step, keep := keep, torn := torn, off := off }) := by unfold Dv.arm; rw [hd, if_neg (by decide), if_neg hnn]
  refine NilF.intro rfl (stb (add1 b 2) h1.hb h1.bt (by simp [Dh.cs]) fun w2 hb2 f2 s2 => ?_)
  have kd : Kp no w2 w2.drew := Kp.drew w2 1
  have hb12 := f2.kp.blk hb1 (fun hn => hn (by rw [ht1]; omega))
  have nb1 : ¬ b1 = b := fun hh => by have := h1.bt; rw [← hh] at this; omega
  have hr2 := (hl1.fr f2 fun u hu => hu.1).rd.rd
  refine ⟨fun w' => Kp (fun k => k = b) w2 w', kd.of_no, _, _, _, fun w' kz => c0 (kz.blk hb12 nb1) rfl, _, fun w' kz => cN (kz.blk hb12 nb1) rfl, _, fun w' kz => cN (kz.blk hb12 nb1) rfl, ?_⟩
  refine clone64_c (hr2.kp0 kd) rfl hl.nn hl.ln fun a3 c3 w3 hsl3 k3 fr3 => ⟨_, _, _, rfl, (kd.trans0 k3).of_no, ?_⟩
  have k23 := kd.trans0 k3
  have f3 : Fro (fun _ => True) w2 ow1 w3 (ext ow1 w2.heap.size (t + 3)) := Fro.of_kp0 (t + 3) k23
  have hb3 := k23.blk hb2 id
  have hbt3 : ext ow1 w2.heap.size (t + 3) b = t := by rw [ext_old hb2.lt]; exact h1.bt
  have hk3 : SlT w3 (ext ow1 w2.heap.size (t + 3)) T_uint64 1 a3 keep.length c3 (keep.map u64v) (t + 3) := ⟨hsl3, fun j hj => ext_new (fr3 j hj)⟩
  have l3 := ((h1.l.fr f2 (by omega) (by omega) (by omega)).fr f3 trivial trivial trivial)
  refine NilF.intro rfl (StF.at (add1 b 3) hb3 (by simp [Dh.cs]) fun w4 hb4 k4 s4 => StF.at (add2 b 3 1) hb4 (by simp [Dh.cs]) fun w5 hb5 k5 s5 => StF.at (add2 b 3 2) hb5 (by simp [Dh.cs]) fun w6 hb6 k6 s6 => ?_)
  have k36 := (k4.trans0 k5).trans0 k6
  have f6 : Fro (fun u => u ≠ t) w3 (ext ow1 w2.heap.size (t + 3)) w6 (ext ow1 w2.heap.size (t + 3)) := Fro.of_kp' k36 fun b' _ hb' hne => hne (by rw [hb']; exact hbt3)
  have l6 := l3.fr f6 (by omega) (by omega) (by omega)
  refine ⟨k23.of_no.trans0 k36, ?_⟩
  have := hK w6 (ext ow1 w2.heap.size (t + 3)) (by
    rw [e]
    refine ⟨H, Q, a3, c3, ⟨l6.im, l6.pl, l6.pb, l6.qv, ?_⟩, hb6, hbt3, hk3.fr f6 (by omega)⟩
    have := h.l.ok.arm torn off hs hl.lt (step := step) (keep := keep)
    rw [e] at this
    exact this) ((((f1.mono fun _ _ => trivial).trans (f2.mono fun u hu => hu.1)).trans (f3.mono fun _ _ => trivial)).trans (f6.mono fun u hu => hu.1))
  rw [e] at this
  exact this
theorem image_c (h : DX w ow t b v) (hK : ∀ a' c' w', Sl w' T_uint8 1 a' v.img.length c' (bvs v.img) → Kp no w w' → Fresh w a' → R (.returned (.slice a' v.img.length v.img.length)) w') : GoC Tryz.prog F_sectors_Device_Image #[.pointer (some ⟨b, 0, none⟩)] w R := by
  obtain ⟨H, Q, ka, kc, h⟩ := h
  have hlen := h.l.ok.len
  have hn2 := h.l.ok.n2
  refine S_sectors_Device_Image ?_
  unfold W_sectors_Device_Image
  refine ⟨_, _, _, c0 h.hb rfl, clone_c h.l.im.sl.rd rfl (sl_some' h.l.im.sl) (by omega) fun a' c' w' hs k fr _ => ⟨_, _, _, rfl, clip_c hs.2.1 ⟨_, _, _, rfl, hK a' c' w' hs k fr⟩⟩⟩
theorem dev_new {w1 w2 : World} {b1 ic : Nat} {ia : Option Addr} {img : List UInt8} (k1 : Kp no w w1) (him : Sl w1 T_uint8 1 ia img.length ic (bvs img)) (fr : Fresh w ia) (hok : (Dv.load img).Ok) (hb : Blk w2 b1 #[.slice ia img.length ic, .slice none 0 0, .int .i64 0, .slice none 0 0, .int .i64 0, .int .i64 0, .bool false, .int .i64 0] T_sectors_Device) (k2 : Kp no w1 w2) (hbe : b1 = w1.heap.size) (t : Nat) :
    ∃ ow', DX w2 ow' t b1 (Dv.load img) ∧ ∀ j, j < w.heap.size → ow' j = ow j := by
  have sz := k1.size
  refine ⟨tag (Is ia) (t + 1) (ext ow w.heap.size t), ⟨⟨ia, ic, none, 0⟩, [], none, 0, ⟨⟨him.kp0 k2, fun j hj => tag_in hj⟩, slt_nil _ _ _ _ _, fun x hx => absurd hx (by simp), rfl, hok⟩, hb, ?_, slt_nil _ _ _ _ _⟩, fun j hj => ?_⟩
  · rw [tag_out fun hh => by have := him.lt b1 hh; omega, ext_new (by omega)]
  · rw [tag_out fun hh => by have := fr j hh; omega, ext_old hj]
theorem new_c {n : Nat} (h1 : 1 ≤ n) (h2 : n ≤ 8192) (t : Nat) (hK : ∀ b w' ow', DX w' ow' t b (Dv.new n) → Kp no w w' → (∀ j, j < w.heap.size → ow' j = ow j) → w.heap.size ≤ b → R (.returned (.tuple #[.pointer (some ⟨b, 0, none⟩), .int .i64 0])) w') : GoC Tryz.prog F_sectors_New #[.int .i64 (n : Int)] w R := by
  refine S_sectors_New ?_
  unfold W_sectors_New
  refine cond_f (decide_eq_false (by omega)) (cond_f (decide_eq_false (by omega)) ?_)
  have e : IntKind.wrap .i64 ((n : Int) * 512) = ((n * 512 : Nat) : Int) := by rw [wrap_i64 (by omega) (by omega)]; omega
  rw [e]
  refine make_u8 (n := n * 512) (by omega) fun bi w1 cur hbi hcur k1 hbe => ⟨_, _, _, rfl, AlF.intro fun b1 w2 hb1e hb1 k2 s2 => ?_⟩
  have hl : (List.replicate (n * 512) (0 : UInt8)).length = n * 512 := List.length_replicate
  have him : Sl w1 T_uint8 1 (some ⟨bi, 0, none⟩) (List.replicate (n * 512) (0 : UInt8)).length (n * 512) (bvs (List.replicate (n * 512) (0 : UInt8))) := by
    refine ⟨by rw [bvs_len]; omega, by omega, .inr ⟨bi, cur, rfl, hbi, ?_, ?_⟩⟩
    · have := congrArg List.length hcur
      rw [bvs_len, hl] at this
      simpa using this
    · rw [hcur, List.take_of_length_le (by rw [bvs_len]; omega)]
  obtain ⟨ow', hd, ho⟩ := dev_new (ow := ow) (img := List.replicate (n * 512) 0) (b1 := b1) (w2 := w2) k1 him (fun k hk => by obtain ⟨_, he, rfl⟩ := hk; cases he; show w.heap.size ≤ bi; omega) (Dv.Ok.load hl h1 h2) (by rw [hl]; exact hb1) k2 hb1e t
  exact hK b1 w2 ow' hd (k1.trans0 k2) ho (by have := k1.size; omega)
end
structure Dv.Sm (v : Dv) (m : Nat) : Prop where
  q : v.q.length ≤ m
  k : v.keep.length * 8 ≤ 140737488355328
theorem Dv.Sm.mono {v : Dv} {m m' : Nat} (h : v.Sm m) (hm : m ≤ m') : v.Sm m' := ⟨Nat.le_trans h.q hm, h.k⟩
theorem Dv.write_sm {v : Dv} {i : Int} {b : List UInt8} {m : Nat} (h : v.Sm m) : (v.write i b).2.Sm (m + 1) := by
  unfold Dv.write
  repeat' split
  · exact h.mono (by omega)
  · exact h.mono (by omega)
  · exact h.mono (by omega)
  · exact ⟨by simp [Dv.fall], by simp [Dv.fall]⟩
  · exact ⟨by simp [Dv.add, Dv.bump, h.q], h.k⟩
theorem Dv.sync_sm {v : Dv} {m : Nat} (h : v.Sm m) : v.sync.2.Sm m := by
  unfold Dv.sync
  repeat' split
  · exact h
  · exact ⟨by simp [Dv.fall], by simp [Dv.fall]⟩
  · exact ⟨by simp [Dv.synced], h.k⟩
def putL : Dv → Int → List (List UInt8) → Nat × Dv
  | v, _, [] => v.sync
  | v, i, b :: r => if (v.write i b).1 ≠ 0 then v.write i b else putL (v.write i b).2 (i + 1) r
theorem putL_sm : ∀ (l : List (List UInt8)) {v : Dv} {i : Int} {m : Nat}, v.Sm m → (putL v i l).2.Sm (m + l.length)
  | [], v, i, m, h => Dv.sync_sm h
  | b :: r, v, i, m, h => by
    rw [putL]
    have h1 := Dv.write_sm (i := i) (b := b) h
    split
    · exact h1.mono (by simp only [List.length_cons]; omega)
    · have := putL_sm r (i := i + 1) h1
      exact this.mono (by simp only [List.length_cons]; omega)
theorem putL_Ok : ∀ (l : List (List UInt8)) {v : Dv} (i : Int), v.Ok → (putL v i l).2.Ok
  | [], v, i, h => h.sync
  | b :: r, v, i, h => by
    rw [putL]
    split
    · exact h.write i b
    · exact putL_Ok r (i + 1) (h.write i b)
theorem putL_n : ∀ (l : List (List UInt8)) {v : Dv} (i : Int), v.Ok → (putL v i l).2.n = v.n
  | [], v, i, h => by
    show v.sync.2.n = v.n
    unfold Dv.sync
    split
    · rfl
    split
    · exact Dv.n_of (fallL_len _ _ _ v.n v.q 0 v.img h.len h.q)
    · exact Dv.n_of (syncL_len v.n v.q v.img h.len h.q)
  | b :: r, v, i, h => by
    have hw : (v.write i b).2.n = v.n := by
      unfold Dv.write
      split
      · rfl
      split
      · rfl
      rename_i hi
      split
      · rfl
      rename_i hb
      split
      · have ha := h.bump.add (i := i) (b := b) (Decidable.not_not.1 hi) (Decidable.not_not.1 hb)
        exact Dv.n_of (fallL_len _ _ _ v.n _ 0 v.img h.len ha.q)
      · rfl
    rw [putL]
    split
    · exact hw
    · rw [putL_n r _ (h.write i b), hw]
theorem sect_len {v : Dv} (hok : v.Ok) {i : Nat} (hi : i < v.n) : (v.sect i).length = 512 := by
  have := hok.len
  unfold Dv.sect
  rw [List.length_take, List.length_drop]
  have : (i + 1) * 512 ≤ v.n * 512 := Nat.mul_le_mul_right _ hi
  omega
theorem sect_ovr {img b : List UInt8} {n i j : Nat} (hl : img.length = n * 512) (hi : i < n) (hb : b.length ≤ 512) :
    ((ovr img (i * 512) b).drop (j * 512)).take 512 = if j = i then b ++ ((img.drop (i * 512)).take 512).drop b.length else (img.drop (j * 512)).take 512 := by
  have h1 : (i + 1) * 512 ≤ n * 512 := Nat.mul_le_mul_right _ hi
  apply List.ext_getElem?
  intro k
  rw [List.getElem?_take]
  by_cases hk : k < 512
  · rw [if_pos hk, List.getElem?_drop, ovr_get (by omega)]
    by_cases hj : j = i
    · subst hj
      rw [if_pos rfl]
      by_cases h2 : k < b.length
      · rw [if_pos (by omega), List.getElem?_append_left h2]
        congr 1
        omega
      · rw [if_neg (by omega), List.getElem?_append_right (by omega), List.getElem?_drop, List.getElem?_take, if_pos (by omega), List.getElem?_drop]
        congr 1
        omega
    · rw [if_neg hj, if_neg, List.getElem?_take, if_pos hk, List.getElem?_drop]
      intro ⟨h3, h4⟩
      rcases Nat.lt_or_gt_of_ne hj with h | h
      · have : (j + 1) * 512 ≤ i * 512 := Nat.mul_le_mul_right _ h
        omega
      · have : (i + 1) * 512 ≤ j * 512 := Nat.mul_le_mul_right _ h
        omega
  · rw [if_neg hk]
    split
    · rw [List.getElem?_eq_none]
      rw [List.length_append, List.length_drop, List.length_take, List.length_drop]
      omega
    · rw [List.getElem?_take, if_neg hk]
theorem sect_all {img b : List UInt8} {n i j : Nat} (hl : img.length = n * 512) (hi : i < n) (hb : b.length = 512) :
    ((ovr img (i * 512) b).drop (j * 512)).take 512 = if j = i then b else (img.drop (j * 512)).take 512 := by
  rw [sect_ovr hl hi (by omega)]
  split
  · rw [List.drop_eq_nil_of_le (by rw [List.length_take]; omega), List.append_nil]
  · rfl
theorem lay_ln {img b : List UInt8} {n i : Nat} (h : img.length = n * 512) (hi : i < n) (hb : b.length ≤ 512) : (ovr img (i * 512) b).length = n * 512 := by
  have : (i + 1) * 512 ≤ n * 512 := Nat.mul_le_mul_right _ hi
  rw [ovr_len (by omega), h]
theorem sect_sync {n j : Nat} (hj : j < n) : ∀ (q : List (Int × List UInt8)) (img : List UInt8), img.length = n * 512 → (∀ p ∈ q, 0 ≤ p.1 ∧ p.1 < (n : Int) ∧ p.2.length = 512) →
    ((syncL q img).drop (j * 512)).take 512 = readL (j : Int) q ((img.drop (j * 512)).take 512)
  | [], _, _, _ => rfl
  | p :: r, img, h, hq => by
    have hp := hq p (by simp)
    rw [syncL, sect_sync hj r _ (lay_ln h (by omega) (by omega)) fun x hx => hq x (by simp [hx]), readL, sect_all h (by omega) hp.2.2]
    congr 1
    by_cases e : p.1 = (j : Int)
    · rw [if_pos e, if_pos (by omega)]
    · rw [if_neg e, if_neg (by omega)]
theorem sect_fall {n j : Nat} (hj : j < n) (keep : List Nat) (torn off : Int) : ∀ (q : List (Int × List UInt8)) (k : Nat) (img : List UInt8), img.length = n * 512 → (∀ p ∈ q, 0 ≤ p.1 ∧ p.1 < (n : Int) ∧ p.2.length = 512) → (∀ p ∈ q, p.1 ≠ (j : Int)) →
    ((fallL keep torn off k q img).drop (j * 512)).take 512 = (img.drop (j * 512)).take 512
  | [], _, _, _, _, _ => rfl
  | p :: r, k, img, h, hq, hn => by
    have hp := hq p (by simp)
    have hne := hn p (by simp)
    rw [fallL, sect_fall hj keep torn off r _ _ _ (fun x hx => hq x (by simp [hx])) fun x hx => hn x (by simp [hx])]
    · split
      · rw [sect_all h (by omega) hp.2.2, if_neg (by omega)]
      · split
        · rw [sect_ovr h (by omega) (by rw [List.length_take]; omega), if_neg (by omega)]
        · rfl
    · split
      · exact lay_ln h (by omega) (by omega)
      · split
        · exact lay_ln h (by omega) (by rw [List.length_take]; omega)
        · exact h
def Mix (b o x : List UInt8) : Prop := ∃ c, c ≤ 512 ∧ x = b.take c ++ o.drop c
def zipI : Int → List (List UInt8) → List (Int × List UInt8)
  | _, [] => []
  | i, b :: r => (i, b) :: zipI (i + 1) r
def leB8 : Nat → Nat → List UInt8
  | 0, _ => []
  | s + 1, n => UInt8.ofNat (n % 256) :: leB8 s (n / 256)
theorem leB8_len : ∀ s n, (leB8 s n).length = s
  | 0, _ => rfl
  | s + 1, n => by simp [leB8, leB8_len s]
def leN : List UInt8 → Nat
  | [] => 0
  | c :: r => c.toNat + 256 * leN r
theorem leN_lt : ∀ l, leN l < 256 ^ l.length
  | [] => by simp [leN]
  | c :: r => by
    have := leN_lt r
    have := u8_lt c
    simp only [leN, List.length_cons, Nat.pow_succ]
    omega
theorem leN_snoc : ∀ (l : List UInt8) (x : UInt8), leN (l ++ [x]) = leN l + x.toNat * 256 ^ l.length
  | [], x => by simp [leN]
  | c :: r, x => by
    rw [List.cons_append, leN, leN_snoc r x, leN, List.length_cons, Nat.pow_succ, Nat.mul_add, ← Nat.mul_assoc, ← Nat.mul_assoc, Nat.add_assoc]
    congr 2
    rw [Nat.mul_comm 256, Nat.mul_assoc, Nat.mul_assoc, Nat.mul_comm 256]
theorem leN_leB8 : ∀ s n, leN (leB8 s n) = n % 256 ^ s
  | 0, n => by simp [leB8, leN, Nat.mod_one]
  | s + 1, n => by
    simp only [leB8, leN, leN_leB8 s]
    have : (UInt8.ofNat (n % 256)).toNat = n % 256 := by simp [UInt8.toNat_ofNat']
    rw [this, Nat.pow_succ, Nat.mul_comm (256 ^ s), Nat.mod_mul]
def secH (lsn : Nat) (b : List UInt8) : List UInt8 := 108 :: (leB8 4 lsn ++ leB8 2 b.length)
def secB (lsn : Nat) (b : List UInt8) : List UInt8 := secH lsn b ++ (b ++ (List.replicate (504 - b.length) 0 ++ [165]))
theorem secH_len (lsn : Nat) (b : List UInt8) : (secH lsn b).length = 7 := by
  unfold secH
  rw [List.length_cons, List.length_append, leB8_len, leB8_len]
theorem secB_len {lsn : Nat} {b : List UInt8} (h : b.length ≤ 504) : (secB lsn b).length = 512 := by
  unfold secB
  rw [List.length_append, secH_len, List.length_append, List.length_append, List.length_replicate, List.length_singleton]
  omega
def bytN (s : List UInt8) : Nat := leN ((s.drop 5).take 2)
def zerosB (l : List UInt8) : Bool := !l.any fun x => decide (x.toNat ≠ 0)
def isSec (s : List UInt8) (lsn : Nat) : Bool := decide ((s.getD 0 0).toNat = 108) && decide ((s.getD 511 0).toNat = 165) && decide (leN ((s.drop 1).take 4) = lsn) && decide (1 ≤ bytN s) && decide (bytN s ≤ 502) && zerosB ((s.drop (7 + bytN s)).take (504 - bytN s))
def bytB (s : List UInt8) : List UInt8 := (s.drop 7).take (bytN s)
theorem replicate_any (k : Nat) : (List.replicate k (0 : UInt8)).any (fun x => decide (x.toNat ≠ 0)) = false := by
  rw [List.any_eq_false]
  intro x hx
  rw [(List.mem_replicate.1 hx).2]
  decide
theorem secB_drop7 (lsn : Nat) (b : List UInt8) : (secB lsn b).drop 7 = b ++ (List.replicate (504 - b.length) 0 ++ [165]) := by
  unfold secB
  rw [List.drop_append_of_le_length (by rw [secH_len]; exact Nat.le_refl _), List.drop_eq_nil_of_le (by rw [secH_len]; exact Nat.le_refl _), List.nil_append]
theorem secB_n {lsn : Nat} {b : List UInt8} (h : b.length ≤ 502) : bytN (secB lsn b) = b.length := by
  unfold bytN
  have e : (secB lsn b).drop 5 = leB8 2 b.length ++ (b ++ (List.replicate (504 - b.length) 0 ++ [165])) := by
    have e1 : secB lsn b = (108 :: leB8 4 lsn) ++ (leB8 2 b.length ++ (b ++ (List.replicate (504 - b.length) 0 ++ [165]))) := by
      unfold secB secH
      rw [← List.append_assoc (108 :: leB8 4 lsn), List.cons_append]
      rfl
    have l5 : (108 :: leB8 4 lsn).length = 5 := by rw [List.length_cons, leB8_len]
    rw [e1, List.drop_append_of_le_length (by omega), List.drop_eq_nil_of_le (by omega), List.nil_append]
  rw [e, List.take_append_of_le_length (by rw [leB8_len]; exact Nat.le_refl _), List.take_of_length_le (by rw [leB8_len]; exact Nat.le_refl _), leN_leB8]
  exact Nat.mod_eq_of_lt (by omega)
theorem secB_lsn {lsn : Nat} {b : List UInt8} (h : lsn < 4294967296) : leN (((secB lsn b).drop 1).take 4) = lsn := by
  have e : (secB lsn b).drop 1 = leB8 4 lsn ++ (leB8 2 b.length ++ (b ++ (List.replicate (504 - b.length) 0 ++ [165]))) := by
    unfold secB secH
    rw [List.cons_append, List.drop_succ_cons, List.drop_zero, List.append_assoc]
  rw [e, List.take_append_of_le_length (by rw [leB8_len]; exact Nat.le_refl _), List.take_of_length_le (by rw [leB8_len]; exact Nat.le_refl _), leN_leB8]
  exact Nat.mod_eq_of_lt (by omega)
theorem secB_511 {lsn : Nat} {b : List UInt8} (h : b.length ≤ 504) : (secB lsn b).getD 511 0 = 165 := by
  unfold secB
  rw [← List.append_assoc, ← List.append_assoc, List.getD_eq_getElem?_getD, List.getElem?_append_right (by rw [List.length_append, List.length_append, secH_len, List.length_replicate]; omega)]
  have : 511 - (secH lsn b ++ b ++ List.replicate (504 - b.length) 0).length = 0 := by rw [List.length_append, List.length_append, secH_len, List.length_replicate]; omega
  rw [this]
  rfl
theorem isSec_secB {lsn : Nat} {b : List UInt8} (hl : lsn < 4294967296) (h1 : 1 ≤ b.length) (h2 : b.length ≤ 502) : isSec (secB lsn b) lsn = true ∧ bytB (secB lsn b) = b := by
  have hn := secB_n (lsn := lsn) h2
  constructor
  · unfold isSec
    rw [hn, secB_lsn hl, secB_511 (by omega)]
    have e0 : (secB lsn b).getD 0 0 = 108 := rfl
    have ez : ((secB lsn b).drop (7 + b.length)).take (504 - b.length) = List.replicate (504 - b.length) 0 := by
      rw [← List.drop_drop, secB_drop7, List.drop_append_of_le_length (Nat.le_refl _), List.drop_eq_nil_of_le (Nat.le_refl _), List.nil_append, List.take_append_of_le_length (by rw [List.length_replicate]; exact Nat.le_refl _), List.take_of_length_le (by rw [List.length_replicate]; exact Nat.le_refl _)]
    rw [e0, ez]
    unfold zerosB
    rw [replicate_any]
    simp
    omega
  · unfold bytB
    rw [hn, secB_drop7, List.take_left]
theorem isSec_last {s : List UInt8} {lsn : Nat} (h : (s.getD 511 0).toNat = 0) : isSec s lsn = false := by
  unfold isSec
  rw [h]
  simp
theorem torn_sec {lsn : Nat} {b o : List UInt8} (hb : b.length ≤ 502) (m : Mix (secB lsn b) (List.replicate 512 0) o) : o = secB lsn b ∨ (o.getD 511 0).toNat = 0 := by
  obtain ⟨c, hc, rfl⟩ := m
  by_cases e : c = 512
  · left
    rw [e, List.take_of_length_le (by rw [secB_len (by omega)]; exact Nat.le_refl _), List.drop_eq_nil_of_le (by rw [List.length_replicate]; exact Nat.le_refl _), List.append_nil]
  · right
    rw [List.getD_eq_getElem?_getD, List.getElem?_append_right (by rw [List.length_take, secB_len (by omega)]; omega), List.getElem?_drop, List.getElem?_replicate]
    split <;> rfl
section
open Go Go.RowKit Go.ChangeShapes Go.WideShapes
def Arg (P : Program) (W : World) (t : TypeId) (v : Value) : Prop :=
  ∃ (H : Type) (enc : TypeId × Value → H) (base : Nat) (d : DataW H) (ps : List MemPlace), Value.okWide P W .any base t v ∧ DataW.Trod enc P W 0 (fun _ => true) true t v d ps
def Cl (P : Program) (W : World) (t : TypeId) (cs : List Value) : Prop :=
  ∃ (H : Type) (enc : TypeId × Value → H) (n : Nat) (x : DataW H × List MemPlace), DataW.trod enc P W 0 (fun _ => true) true n t cs = some x
theorem Arg.cl {P : Program} {W : World} {t : TypeId} {v : Value} (h : Arg P W t v) : Cl P W t v.cells.toList := by
  obtain ⟨H, enc, base, d, ps, _, fuel, hf⟩ := h
  exact ⟨H, enc, fuel, _, hf⟩
section
variable {P : Program} {W : World}
theorem Cl.int {t : TypeId} {k : IntKind} {cs : List Value} (ht : P.underlying t = some (.int k)) (h : Cl P W t cs) : ∃ n : Int, cs = [.int k n] ∧ (Lit.int k n).wf = true := by
  obtain ⟨H, enc, fuel, x, hf⟩ := h
  obtain ⟨n, hc, _, hw⟩ := DataW.trod_int ht hf
  exact ⟨n, hc, hw⟩
theorem Cl.bool {t : TypeId} {cs : List Value} (ht : P.underlying t = some .bool) (h : Cl P W t cs) : ∃ b : Bool, cs = [.bool b] := by
  obtain ⟨H, enc, fuel, x, hf⟩ := h
  obtain ⟨b, hc, _⟩ := DataW.trod_bool ht hf
  exact ⟨b, hc⟩
theorem Arg.int {t : TypeId} {k : IntKind} {v : Value} (ht : P.underlying t = some (.int k)) (h : Arg P W t v) : ∃ n : Int, v = .int k n ∧ (Lit.int k n).wf = true := by
  obtain ⟨H, enc, base, d, ps, hok, hd⟩ := h
  obtain ⟨n, hv, _, _, hw⟩ := open_int ht hok hd
  exact ⟨n, hv, hw⟩
theorem Arg.slice {t e : TypeId} {v : Value} (ht : P.underlying t = some (.slice e)) (h : Arg P W t v) : ∃ (a : Option Addr) (l c : Nat), v = .slice a l c ∧ Cl P W t [.slice a l c] := by
  have hc := h.cl
  obtain ⟨H, enc, base, d, ps, hok, hd⟩ := h
  obtain ⟨a, l, c, rfl⟩ := okWide_slice ht hok
  exact ⟨a, l, c, rfl, hc⟩
theorem cells_row {a : Addr} {n : Nat} {cs : List Value} (h : W.cells? 0 a n = some cs) : cs.length = n ∧ ∀ i v, cs[i]? = some v → W.cell? (a.add i) = some v := by
  obtain ⟨_, hl, hc⟩ := World.cells?_some h
  refine ⟨hl, fun i v hv => ?_⟩
  have hi : i < cs.length := (List.getElem?_eq_some_iff.1 hv).1
  have := hc i (by omega)
  rw [this]
  exact hv
theorem Cl.slice {t e : TypeId} {a : Option Addr} {l c : Nat} (ht : P.underlying t = some (.slice e)) (h : Cl P W t [.slice a l c]) :
    (a = none ∧ l = 0 ∧ c = 0) ∨ ∃ ad, a = some ad ∧ l ≤ c ∧ c ≤ 9223372036854775807 ∧ ∀ i, i < l → ∃ cs, cs.length = P.cellsOf e ∧ (∀ j v, cs[j]? = some v → W.cell? ((ad.add (i * P.cellsOf e)).add j) = some v) ∧ Cl P W e cs := by
  obtain ⟨H, enc, fuel, x, hf⟩ := h
  rcases Deep.open_slice ht hf with ⟨h, _⟩ | ⟨ad, len, cap, m, n, D, Pl, h, _, hl, hm, hmm, _, hx⟩
  · cases h; exact .inl ⟨rfl, rfl, rfl⟩
  · cases h
    refine .inr ⟨ad, rfl, hl, by unfold maxLen at hm; omega, fun i hi => ?_⟩
    obtain ⟨cs, h1, h2⟩ := hx i (by simp only [if_true] at hmm; omega)
    obtain ⟨h3, h4⟩ := cells_row h1
    exact ⟨cs, h3, h4, H, enc, n, _, h2⟩
theorem Cl.cells {t e : TypeId} {a : Option Addr} {l c : Nat} {s : Nat} (ht : P.underlying t = some (.slice e)) (hs : P.cellsOf e = s) (hs0 : 0 < s) (h : Cl P W t [.slice a l c]) :
    l ≤ c ∧ c ≤ 9223372036854775807 ∧ (a = none → l = 0 ∧ c = 0) ∧ ∃ css : Nat → List Value, (∀ i, i < l → (css i).length = s ∧ Cl P W e (css i)) ∧
      ∀ i, i < l → ∀ j v, (css i)[j]? = some v → ∃ b o, a = some ⟨b, o, none⟩ ∧ W.cell? ⟨b, o + i * s + j, none⟩ = some v := by
  rcases h.slice ht with ⟨rfl, rfl, rfl⟩ | ⟨ad, rfl, hl, hm, hx⟩
  · exact ⟨Nat.le_refl _, by omega, fun _ => ⟨rfl, rfl⟩, fun _ => [], fun i hi => by omega, fun i hi => by omega⟩
  · rw [hs] at hx
    obtain ⟨css, hcss⟩ := Deep.choose_lt (α := List Value) (p := fun i cs => cs.length = s ∧ (∀ j v, cs[j]? = some v → W.cell? ((ad.add (i * s)).add j) = some v) ∧ Cl P W e cs) hx
    refine ⟨hl, hm, fun h => (by cases h), css, fun i hi => ⟨(hcss i hi).1, (hcss i hi).2.2⟩, fun i hi j v hv => ?_⟩
    have hsp : ad.spot = none := by
      have h0 := hcss 0 (by omega)
      have hlt : 0 < (css 0).length := by omega
      have hc := h0.2.1 0 _ (List.getElem?_eq_getElem hlt)
      rw [Nat.zero_mul] at hc
      have ea : (ad.add 0).add 0 = ad := by simp [Addr.add]
      rw [ea] at hc
      unfold World.cell? at hc
      split at hc
      · cases hs : ad.spot with
        | none => rfl
        | some s => rw [hs] at hc; cases hc
      · cases hc
    obtain ⟨b, o, sp⟩ := ad
    simp only at hsp
    subst hsp
    refine ⟨b, o, rfl, ?_⟩
    have := (hcss i hi).2.1 j v hv
    rwa [add_at, add_at] at this
end
end
section
open Go Go.RowKit Go.ChangeShapes Go.WideShapes
def fieldAt (P : Program) (t : TypeId) (i : Nat) : Option (TypeId × Nat × Nat) :=
  match P.underlying t with
  | some (.struct fs) => (fs[i]?).map fun f => (f.type, f.offset, P.cellsOf f.type)
  | _ => none
section
variable {P : Program} {W : World}
theorem Cl.field {t : TypeId} {cs : List Value} (h : Cl P W t cs) (i : Nat) {e : TypeId} {o s : Nat} (hf : fieldAt P t i = some (e, o, s)) : Cl P W e ((cs.drop o).take s) := by
  unfold fieldAt at hf
  split at hf
  · rename_i fs ht
    obtain ⟨H, enc, fuel, x, hx⟩ := h
    obtain ⟨xs, n, _, _, _, hlen, hall⟩ := DataW.trod_struct ht hx
    rw [Option.map_eq_some_iff] at hf
    obtain ⟨f, hfi, he⟩ := hf
    cases he
    have h1 := hall i f hfi
    have hi : i < xs.length := by rw [hlen]; exact (Array.getElem?_eq_some_iff.1 hfi).1
    rw [List.getElem?_eq_getElem hi] at h1
    exact ⟨H, enc, n, _, h1⟩
  · cases hf
def structCells (P : Program) (t : TypeId) : Option Nat :=
  match P.underlying t with
  | some (.struct _) => some (P.cellsOf t)
  | _ => none
theorem Cl.slen {t : TypeId} {cs : List Value} (h : Cl P W t cs) {s : Nat} (hs : structCells P t = some s) : cs.length = s := by
  unfold structCells at hs
  split at hs
  · rename_i fs ht
    obtain ⟨H, enc, fuel, x, hx⟩ := h
    obtain ⟨xs, n, _, _, hl, _⟩ := DataW.trod_struct ht hx
    cases hs
    exact hl
  · cases hs
end
theorem u64_wf {n : Int} (h : (Lit.int .u64 n).wf = true) : ∃ m : Nat, n = (m : Int) ∧ m < 18446744073709551616 := by
  have hb : 0 ≤ n ∧ n < 18446744073709551616 := by
    simp only [Lit.wf, IntKind.min, IntKind.max, IntKind.signed, IntKind.bits, Bool.false_eq_true, if_false, Bool.and_eq_true, decide_eq_true_eq] at h
    omega
  exact ⟨n.toNat, by omega, by omega⟩
theorem u8_wf {n : Int} (h : (Lit.int .u8 n).wf = true) : ∃ m : UInt8, n = (m.toNat : Int) := by
  have hb : 0 ≤ n ∧ n < 256 := by
    simp only [Lit.wf, IntKind.min, IntKind.max, IntKind.signed, IntKind.bits, Bool.false_eq_true, if_false, Bool.and_eq_true, decide_eq_true_eq] at h
    omega
  refine ⟨UInt8.ofNat n.toNat, ?_⟩
  simp only [UInt8.toNat_ofNat']
  omega
theorem i64_wf {n : Int} (h : (Lit.int .i64 n).wf = true) : -9223372036854775808 ≤ n ∧ n ≤ 9223372036854775807 := by
  simp only [Lit.wf, IntKind.min, IntKind.max, IntKind.signed, IntKind.bits, if_true, Bool.and_eq_true, decide_eq_true_eq] at h
  omega
end
section
open Go Go.RowKit Go.ChangeShapes Go.WideShapes
def ArgW (P : Program) (W : World) (t : TypeId) (v : Value) : Prop :=
  ∃ (H : Type) (enc : TypeId × Value → H) (base : Nat) (d : DataW H) (ps : List MemPlace), Value.okWide P W .any base t v ∧ DataW.Trod enc P W 0 (fun _ => true) true t v d ps ∧ ∀ n ∈ d.weights P t, n ≤ reachBytes
def ClW (P : Program) (W : World) (t : TypeId) (cs : List Value) : Prop :=
  ∃ (H : Type) (enc : TypeId × Value → H) (n : Nat) (x : DataW H × List MemPlace), DataW.trod enc P W 0 (fun _ => true) true n t cs = some x ∧ ∀ m ∈ x.1.weights P t, m ≤ reachBytes
section
variable {P : Program} {W : World}
theorem ArgW.arg {t : TypeId} {v : Value} (h : ArgW P W t v) : Arg P W t v := by
  obtain ⟨H, enc, base, d, ps, h1, h2, _⟩ := h
  exact ⟨H, enc, base, d, ps, h1, h2⟩
theorem ArgW.clw {t : TypeId} {v : Value} (h : ArgW P W t v) : ClW P W t v.cells.toList := by
  obtain ⟨H, enc, base, d, ps, _, ⟨fuel, hf⟩, hw⟩ := h
  exact ⟨H, enc, fuel, _, hf, hw⟩
theorem ClW.cl {t : TypeId} {cs : List Value} (h : ClW P W t cs) : Cl P W t cs := by
  obtain ⟨H, enc, n, x, hx, _⟩ := h
  exact ⟨H, enc, n, x, hx⟩
theorem ClW.len {t e : TypeId} {a : Option Addr} {l c : Nat} (ht : P.underlying t = some (.slice e)) (h : ClW P W t [.slice a l c]) : l * P.bytesOf e ≤ reachBytes := by
  obtain ⟨H, enc, fuel, x, hf, hw⟩ := h
  rcases Deep.open_slice ht hf with ⟨h, _⟩ | ⟨ad, len, cap, m, n, D, Pl, h, _, hl, hm, hmm, hx, _⟩
  · cases h; rw [Nat.zero_mul]; exact Nat.zero_le _
  · cases h
    subst hx
    refine Nat.le_trans ?_ (hw ((((List.range l).map D).length + ((List.range (m - l)).map fun j => D (l + j)).length) * P.bytesOf e) ?_)
    · exact Nat.mul_le_mul_right _ (by simp)
    · simp [DataW.weights, ht]
theorem ClW.field {t : TypeId} {cs : List Value} (h : ClW P W t cs) (i : Nat) {e : TypeId} {o s : Nat} (hf : fieldAt P t i = some (e, o, s)) : ClW P W e ((cs.drop o).take s) := by
  unfold fieldAt at hf
  split at hf
  · rename_i fs ht
    obtain ⟨H, enc, fuel, x, hx, hw⟩ := h
    obtain ⟨xs, n, _, hxe, _, hlen, hall⟩ := DataW.trod_struct ht hx
    rw [Option.map_eq_some_iff] at hf
    obtain ⟨f, hfi, he⟩ := hf
    cases he
    have h1 := hall i f hfi
    have hi : i < xs.length := by rw [hlen]; exact (Array.getElem?_eq_some_iff.1 hfi).1
    rw [List.getElem?_eq_getElem hi] at h1
    refine ⟨H, enc, n, _, h1, fun m hm => hw m ?_⟩
    subst hxe
    simp only [DataW.weights, ht]
    refine DataW.weights_mem_each (j := i) (t := f.type) (d := (xs[i]).1) ?_ ?_ m hm
    · rw [List.getElem?_map, Array.getElem?_toList, hfi]; rfl
    · rw [List.getElem?_map, List.getElem?_eq_getElem hi]; rfl
  · cases hf
end
end

/-! Records as the formulas pass them; contracts of the package record: in, below, slots, blank, state. Conditions: none. -/
theorem Blk.at {w : World} {b o : Nat} {cs : Array Value} {T : TypeId} {ad : Addr} {v : Value} (h : Blk w b cs T) (had : ad = ⟨b, o, none⟩) (hv : cs[o]? = some v) : w.cell? ad = some v := by
  subst had
  rw [h.cell]
  exact hv
structure Loc (w0 w : World) (b : Nat) (cs : Array Value) (T : TypeId) : Prop where
  blk : Blk w b cs T
  nw : w0.heap.size ≤ b
  kp : Kp no w0 w
theorem Loc.al {w0 w : World} {cs : Array Value} {T : TypeId} {K : Nat → World → Prop} (k : Kp no w0 w) (h : ∀ b w', Loc w0 w' b cs T → Kp no w w' → w.heap.size ≤ b → K b w') : AlF w (.cells cs T) K :=
  AlF.intro fun b w' hb hblk k' _ => h b w' ⟨hblk, by have := k.size; omega, k.trans0 k'⟩ k' (by omega)
theorem Loc.st {w0 w : World} {b o : Nat} {cs : Array Value} {T : TypeId} {ad : Addr} {v : Value} {K : World → Prop} (h : Loc w0 w b cs T) (had : ad = ⟨b, o, none⟩) (ho : o < cs.size)
    (hk : ∀ w', Loc w0 w' b (cs.setIfInBounds o v) T → Kp (fun k => k = b) w w' → K w') : StF w ad v K :=
  StF.at had h.blk ho fun w' hb' k' _ => hk w' ⟨hb', h.nw, kp_blk h.kp h.nw k'⟩ k'
theorem Loc.at {w0 w : World} {b o : Nat} {cs : Array Value} {T : TypeId} {ad : Addr} {v : Value} (h : Loc w0 w b cs T) (had : ad = ⟨b, o, none⟩) (hv : cs[o]? = some v) : w.cell? ad = some v := h.blk.at had hv
theorem Loc.kp' {w0 w w' : World} {b : Nat} {cs : Array Value} {T : TypeId} (h : Loc w0 w b cs T) (k : Kp no w w') : Loc w0 w' b cs T := ⟨k.blk h.blk id, h.nw, h.kp.trans0 k⟩
theorem Loc.of {w0 w w' : World} {b : Nat} {cs : Array Value} {T : TypeId} {S : Nat → Prop} (h : Loc w0 w b cs T) (k : Kp S w w') (hs : ¬ S b) (k0 : Kp no w0 w') : Loc w0 w' b cs T := ⟨k.blk h.blk hs, h.nw, k0⟩
structure LV where
  tx : Int
  last : Int
  c : Bool
  u : Bool
deriving DecidableEq
structure DV where
  page : Int
  since : Int
deriving DecidableEq
structure RV where
  lsn : Int := 0
  kind : Int := 0
  tx : Int := 0
  prev : Int := 0
  wp : Int := 0
  wi : Int := 0
  sp : Int := 0
  si : Int := 0
  delta : Int := 0
  id : Int := 0
  grp : Int := 0
  lo : Int := 0
  hi : Int := 0
  val : Int := 0
  next : Int := 0
  live : List LV := []
  dirty : List DV := []
deriving DecidableEq
def LV.cs (x : LV) : List Value := [.int .i64 x.tx, .int .i64 x.last, .bool x.c, .bool x.u]
def DV.cs (x : DV) : List Value := [.int .i64 x.page, .int .i64 x.since]
structure Mm where
  la : Option Addr := none
  ll : Nat := 0
  lc : Nat := 0
  da : Option Addr := none
  dl : Nat := 0
  dc : Nat := 0
def RV.ca (r : RV) (m : Mm) : Array Value := #[.int .i64 r.lsn, .int .i64 r.kind, .int .i64 r.tx, .int .i64 r.prev, .int .i64 r.wp, .int .i64 r.wi, .int .i64 r.sp, .int .i64 r.si, .int .i64 r.delta,
  .int .i64 r.id, .int .i64 r.grp, .int .i64 r.lo, .int .i64 r.hi, .int .i64 r.val, .slice m.la m.ll m.lc, .slice m.da m.dl m.dc, .int .i64 r.next]
structure LiIn (w : World) (m : Mm) (L : List LV) (D : List DV) : Prop where
  l : Rd w m.la (flatV LV.cs L)
  ll : L.length = m.ll
  lb : m.ll < 140737488355329
  d : Rd w m.da (flatV DV.cs D)
  dl : D.length = m.dl
  db : m.dl < 140737488355329
theorem LiIn.kp0 {w w' : World} {m : Mm} {L : List LV} {D : List DV} (h : LiIn w m L D) (k : Kp no w w') : LiIn w' m L D := ⟨h.l.kp0 k, h.ll, h.lb, h.d.kp0 k, h.dl, h.db⟩
def i64 (n : Int) : Prop := -9223372036854775808 ≤ n ∧ n ≤ 9223372036854775807
def inB (n lo hi : Int) : Bool := decide (lo ≤ n ∧ n ≤ hi)
theorem rin_c {w : World} {n lo hi : Int} {R : Po} (h : R (.returned (.bool (inB n lo hi))) w) : GoC Tryz.prog F_record_in #[.int .i64 n, .int .i64 lo, .int .i64 hi] w R := by
  refine S_record_in ?_
  unfold W_record_in
  unfold inB at h
  refine cond_d (fun h1 => ?_) (fun h1 => ?_)
  · have : decide (n ≤ hi) = decide (lo ≤ n ∧ n ≤ hi) := decide_eq_decide.2 (by omega)
    rw [this]
    exact h
  · have : decide (lo ≤ n ∧ n ≤ hi) = false := decide_eq_false (by omega)
    rw [this] at h
    exact h
def belB (n lsn : Int) : Bool := decide (lsn = 0 ∨ n < lsn)
theorem below_c {w : World} {n lsn : Int} {R : Po} (h : R (.returned (.bool (belB n lsn))) w) : GoC Tryz.prog F_record_below #[.int .i64 n, .int .i64 lsn] w R := by
  refine S_record_below ?_
  unfold W_record_below
  unfold belB at h
  refine cond_eq (fun h1 => ?_) (fun h1 => ?_)
  · rw [decide_eq_true (.inl h1)] at h
    exact h
  · have : decide (n < lsn) = decide (lsn = 0 ∨ n < lsn) := decide_eq_decide.2 (by omega)
    rw [this]
    exact h
def slB (wp wi sp si : Int) : Bool := inB wp 0 63 && inB wi 0 30 && inB sp 0 63 && inB si 0 83 && decide (wp ≠ sp)
theorem slots_c {w : World} {wp wi sp si : Int} {R : Po} (h : ∀ w', Kp no w w' → R (.returned (.bool (slB wp wi sp si))) w') : GoC Tryz.prog F_record_slots #[.agg #[.int .i64 wp, .int .i64 wi], .agg #[.int .i64 sp, .int .i64 si]] w R := by
  refine S_record_slots ?_
  unfold W_record_slots
  unfold slB at h
  refine Loc.al (Kp.refl _ w) fun b1 w1 h1 k1 g1 => Loc.al h1.kp fun b2 w2 h2 k2 g2 => ?_
  have h1' := h1.kp' k2
  refine ⟨_, h1'.at rfl rfl, rin_c ⟨_, rfl, cond_b (fun a1 => ?_) (fun a1 => ?_)⟩⟩
  · refine ⟨_, h1'.at rfl rfl, rin_c ⟨_, rfl, cond_b (fun a2 => ?_) (fun a2 => ?_)⟩⟩
    · refine ⟨_, h2.at rfl rfl, rin_c ⟨_, rfl, cond_b (fun a3 => ?_) (fun a3 => ?_)⟩⟩
      · refine ⟨_, h2.at rfl rfl, rin_c ⟨_, rfl, cond_b (fun a4 => ?_) (fun a4 => ?_)⟩⟩
        · refine ⟨_, h1'.at rfl rfl, _, h2.at rfl rfl, ?_⟩
          have e : (wp != sp) = decide (wp ≠ sp) := by by_cases hh : wp = sp <;> simp [hh]
          have := h w2 h2.kp
          rw [a1, a2, a3, a4] at this
          rw [e]
          exact this
        · have := h w2 h2.kp
          rw [a1, a2, a3, a4] at this
          exact this
      · have := h w2 h2.kp
        rw [a1, a2, a3] at this
        exact this
    · have := h w2 h2.kp
      rw [a1, a2] at this
      exact this
  · have := h w2 h2.kp
    rw [a1] at this
    exact this
/-! Contracts of the package record: state, blank, checkpoint. Conditions: none. -/
theorem Loc.up {w0 w w' : World} {b : Nat} {cs : Array Value} {T : TypeId} (h : Loc w w' b cs T) (k : Kp no w0 w) : Loc w0 w' b cs T := ⟨h.blk, by have := h.nw; have := k.size; omega, k.trans0 h.kp⟩
theorem rd_el {α : Type} {f : α → List Value} {s : Nat} (hs : ∀ x, (f x).length = s) (h0 : 0 < s) {w : World} {a : Option Addr} {L : List α} (h : Rd w a (flatV f L)) {k l : Nat} (hk : k < L.length) (hl : L.length = l) {K : Addr → Prop}
    (hK : ∀ b o, a = some ⟨b, o, none⟩ → (∀ q v, (f L[k])[q]? = some v → w.cell? ⟨b, o + k * s + q, none⟩ = some v) → K ⟨b, o, none⟩) : IdxF a (k : Int) l K := by
  have hlen := flatV_len hs L
  have hx : flatV f L ≠ [] := fun hx => by
    rw [hx] at hlen
    have : 0 < L.length * s := Nat.mul_pos (by omega) h0
    simp only [List.length_nil] at hlen
    omega
  obtain ⟨b, o, ha, _, hc⟩ := h.addr hx
  refine ⟨by omega, by omega, _, ha, hK b o ha fun q v hv => ?_⟩
  have hq : q < s := by
    have := (List.getElem?_eq_some_iff.1 hv).1
    rw [hs] at this
    exact this
  rw [Nat.add_assoc]
  exact hc _ v (by rw [flatV_get hs L k hk q hq]; exact hv)
theorem LV.csl (x : LV) : x.cs.length = 4 := rfl
theorem DV.csl (x : DV) : x.cs.length = 2 := rfl
theorem lv_cp {w : World} (x : LV) {K : Nat → World → Prop} (h : ∀ b w', Loc w w' b x.cs.toArray T_api_Live → K b w') :
    AlF w (.cells #[.int .i64 0, .int .i64 0, .bool false, .bool false] T_api_Live) fun b w4 => StF w4 ⟨b, 0, none⟩ (.int .i64 x.tx) fun w5 => StF w5 (Addr.add ⟨b, 0, none⟩ 1) (.int .i64 x.last) fun w6 =>
      StF w6 (Addr.add ⟨b, 0, none⟩ 2) (.bool x.c) fun w7 => StF w7 (Addr.add ⟨b, 0, none⟩ 3) (.bool x.u) fun w8 => K b w8 :=
  Loc.al (Kp.refl _ w) fun b w1 h1 k1 g1 => h1.st rfl (by simp) fun w2 h2 _ => h2.st rfl (by simp) fun w3 h3 _ => h3.st rfl (by simp) fun w4 h4 _ => h4.st rfl (by simp) fun w5 h5 _ => h b w5 h5
theorem dv_cp {w : World} (x : DV) {K : Nat → World → Prop} (h : ∀ b w', Loc w w' b x.cs.toArray T_api_Dirty → K b w') :
    AlF w (.cells #[.int .i64 0, .int .i64 0] T_api_Dirty) fun b w4 => StF w4 ⟨b, 0, none⟩ (.int .i64 x.page) fun w5 => StF w5 (Addr.add ⟨b, 0, none⟩ 1) (.int .i64 x.since) fun w6 => K b w6 :=
  Loc.al (Kp.refl _ w) fun b w1 h1 k1 g1 => h1.st rfl (by simp) fun w2 h2 _ => h2.st rfl (by simp) fun w3 h3 _ => h b w3 h3
def stN (x : LV) : Nat := if x.c then 1 else if x.u then 2 else 0
theorem state_c {w : World} {x : LV} {R : Po} (h : ∀ w', Kp no w w' → R (.returned (.int .u64 (stN x : Int))) w') : GoC Tryz.prog F_record_state #[.agg #[.int .i64 x.tx, .int .i64 x.last, .bool x.c, .bool x.u]] w R := by
  refine S_record_state ?_
  unfold W_record_state
  unfold stN at h
  refine Loc.al (Kp.refl _ w) fun b1 w1 h1 k1 g1 => ⟨_, h1.at rfl rfl, cond_b (fun a1 => ?_) (fun a1 => ⟨_, h1.at rfl rfl, cond_b (fun a2 => ?_) (fun a2 => ?_)⟩)⟩
  · have := h w1 h1.kp
    rw [a1] at this
    exact this
  · have := h w1 h1.kp
    rw [a1, a2] at this
    exact this
  · have := h w1 h1.kp
    rw [a1, a2] at this
    exact this
def blB (r : RV) (m : Mm) : Bool := decide (r.tx = 0 ∧ r.prev = 0 ∧ r.wp = 0 ∧ r.wi = 0 ∧ r.sp = 0 ∧ r.si = 0 ∧ r.delta = 0 ∧ r.id = 0 ∧ r.grp = 0 ∧ r.lo = 0 ∧ r.hi = 0 ∧ r.val = 0 ∧ r.next = 0 ∧ m.ll = 0 ∧ m.dl = 0)
theorem blank_c {w : World} {r : RV} {m : Mm} {R : Po} (h : ∀ w', Kp no w w' → R (.returned (.bool (blB r m))) w') : GoC Tryz.prog F_record_blank #[.agg (r.ca m)] w R := by
  refine S_record_blank ?_
  unfold W_record_blank
  refine Loc.al (Kp.refl _ w) fun b1 w1 h1 k1 g1 => ?_
  have no' : ¬ (r.tx = 0 ∧ r.prev = 0 ∧ r.wp = 0 ∧ r.wi = 0 ∧ r.sp = 0 ∧ r.si = 0 ∧ r.delta = 0 ∧ r.id = 0 ∧ r.grp = 0 ∧ r.lo = 0 ∧ r.hi = 0 ∧ r.val = 0 ∧ r.next = 0 ∧ m.ll = 0 ∧ m.dl = 0) → R (.returned (.bool false)) w1 := fun hh => by
    have := h w1 h1.kp
    unfold blB at this
    rw [decide_eq_false hh] at this
    exact this
  refine ⟨_, h1.at rfl rfl, cond_eq (fun a1 => ?_) (fun a1 => no' (by omega))⟩
  refine ⟨_, h1.at rfl rfl, cond_eq (fun a2 => ?_) (fun a2 => no' (by omega))⟩
  refine ⟨_, _, ⟨h1.at rfl rfl, h1.at rfl rfl, trivial⟩, cond_b (fun a3 => ?_) (fun a3 => no' (by simp at a3; omega))⟩
  refine ⟨_, _, ⟨h1.at rfl rfl, h1.at rfl rfl, trivial⟩, cond_b (fun a4 => ?_) (fun a4 => no' (by simp at a4; omega))⟩
  refine ⟨_, h1.at rfl rfl, cond_eq (fun a5 => ?_) (fun a5 => no' (by omega))⟩
  refine ⟨_, _, _, _, _, ⟨h1.at rfl rfl, h1.at rfl rfl, h1.at rfl rfl, h1.at rfl rfl, h1.at rfl rfl, trivial⟩, cond_b (fun a6 => ?_) (fun a6 => no' (by simp at a6; omega))⟩
  refine ⟨_, h1.at rfl rfl, cond_eq (fun a7 => ?_) (fun a7 => no' (by omega))⟩
  refine ⟨_, _, _, h1.at rfl rfl, cond_eq (fun a8 => ?_) (fun a8 => no' (by omega))⟩
  refine ⟨_, _, _, h1.at rfl rfl, ?_⟩
  have e : (((m.dl : Nat) : Int) == 0) = blB r m := by
    simp only [Bool.and_true, Bool.and_eq_true, beq_iff_eq] at a3 a4 a6
    unfold blB
    by_cases hh : m.dl = 0
    · rw [decide_eq_true (by omega)]
      simp [hh]
    · rw [decide_eq_false (by omega)]
      simp [hh]
  rw [e]
  exact h w1 h1.kp
def liB (next lsn : Int) : Int → List LV → Bool
  | _, [] => true
  | last, x :: r => decide (last < x.tx) && decide (x.tx < next) && inB x.last 1 2147483647 && belB x.last lsn && !(x.c && x.u) && liB next lsn x.tx r
def diB (lsn : Int) : Int → List DV → Bool
  | _, [] => true
  | page, x :: r => decide (page < x.page) && decide (x.page < 64) && inB x.since 1 2147483647 && belB x.since lsn && diB lsn x.page r
def cpB (next lsn : Int) (L : List LV) (D : List DV) : Bool := inB next 1 2147483648 && decide (L.length ≤ 32) && decide (D.length ≤ 16) && liB next lsn 0 L && diB lsn (-1) D
theorem checkpoint_c {w : World} {m : Mm} {next lsn : Int} {L : List LV} {D : List DV} {R : Po} (hi : LiIn w m L D) (h : ∀ w', Kp no w w' → R (.returned (.bool (cpB next lsn L D))) w') :
    GoC Tryz.prog F_record_checkpoint #[.agg #[.slice m.la m.ll m.lc, .slice m.da m.dl m.dc, .int .i64 next], .int .i64 lsn] w R := by
  refine S_record_checkpoint ?_
  unfold W_record_checkpoint
  have hll := hi.ll
  have hdl := hi.dl
  have hlb := hi.lb
  have hdb := hi.db
  refine Loc.al (Kp.refl _ w) fun b1 w1 h1 k1 g1 => ?_
  have no' : ∀ w', Kp no w w' → cpB next lsn L D = false → R (.returned (.bool false)) w' := fun w' k' hh => by
    have := h w' k'
    rw [hh] at this
    exact this
  refine ⟨_, h1.at rfl rfl, rin_c ⟨_, rfl, cond_not (cond_b (fun a1 => ?_) (fun a1 => no' w1 h1.kp (by simp [cpB, a1])))⟩⟩
  refine ⟨_, _, _, h1.at rfl rfl, cond_d (fun a2 => no' w1 h1.kp ?_) (fun a2 => ?_)⟩
  · have : ¬ L.length ≤ 32 := by omega
    simp [cpB, this]
  refine ⟨_, _, _, h1.at rfl rfl, cond_d (fun a3 => no' w1 h1.kp ?_) (fun a3 => ?_)⟩
  · have : ¬ D.length ≤ 16 := by omega
    simp [cpB, this]
  have e2 : L.length ≤ 32 := by omega
  have e3 : D.length ≤ 16 := by omega
  have cp : cpB next lsn L D = (liB next lsn 0 L && diB lsn (-1) D) := by simp [cpB, a1, e2, e3]
  refine ⟨_, _, _, h1.at rfl rfl, ?_⟩
  refine loopN (fun s w2 => Kp no w1 w2 ∧ ∃ k : Nat, k ≤ L.length ∧ s.2.1 = (k : Int) ∧ liB next lsn 0 L = liB next lsn s.1 (L.drop k)) (fun s _ => L.length - s.2.1.toNat) ⟨Kp.refl _ _, 0, Nat.zero_le _, rfl, rfl⟩ ?_
  rintro ⟨last, k0, u⟩ w2 ⟨k2, k, hk, hk0, hl⟩ _
  dsimp only at hk0 hl ⊢
  subst hk0
  have h2 := h1.kp' k2
  refine cond_d (fun hlt => ?_) (fun hge => ?_)
  · have hkl : k < L.length := by omega
    have hd : L.drop k = L[k] :: L.drop (k + 1) := List.drop_eq_getElem_cons hkl
    rw [hd, liB] at hl
    refine rd_el LV.csl (by omega) (hi.kp0 h2.kp).l hkl hll fun b o ha hc => ?_
    have cell : ∀ q v, (L[k]).cs[q]? = some v → w2.cell? (Addr.add ((⟨b, o, none⟩ : Addr).add (Int.toNat (k : Int) * 4)) q) = some v := fun q v hv => by
      rw [Int.toNat_natCast, add_at, add_at]; exact hc q v hv
    have cell0 : w2.cell? ((⟨b, o, none⟩ : Addr).add (Int.toNat (k : Int) * 4)) = some (.int .i64 (L[k]).tx) := by
      rw [Int.toNat_natCast, add_at]; exact hc 0 _ rfl
    refine ⟨_, _, _, _, ⟨cell0, cell 1 _ rfl, cell 2 _ rfl, cell 3 _ rfl, trivial⟩, ?_⟩
    refine lv_cp L[k] fun b2 w3 h3 => ?_
    have no2 : liB next lsn 0 L = false → R (.returned (.bool false)) w3 := fun hh => no' w3 (h2.kp.trans0 h3.kp) (by rw [cp, hh]; rfl)
    have hwk : IntKind.wrap .i64 ((k : Int) + 1) = ((k + 1 : Nat) : Int) := by rw [wrap_i64 (by omega) (by omega)]; omega
    refine ⟨fun _ w4 => w4 = w3 ∧ liB next lsn 0 L = liB next lsn (L[k]).tx (L.drop (k + 1)), ?_, ?_⟩
    · refine ⟨_, h3.at rfl rfl, cond_d (fun a4 => no2 ?_) (fun a4 => ?_)⟩
      · have : ¬ last < (L[k]).tx := by omega
        rw [hl]; simp [this]
      refine ⟨_, h3.at rfl rfl, _, (h2.kp' h3.kp).at rfl rfl, cond_d (fun a5 => no2 ?_) (fun a5 => ?_)⟩
      · have : ¬ (L[k]).tx < next := by omega
        rw [hl]; simp [this]
      refine ⟨_, h3.at rfl rfl, rin_c ⟨_, rfl, cond_not (cond_b (fun a6 => ?_) (fun a6 => no2 (by rw [hl]; simp [a6])))⟩⟩
      refine ⟨_, h3.at rfl rfl, below_c ⟨_, rfl, cond_not (cond_b (fun a7 => ?_) (fun a7 => no2 (by rw [hl]; simp [a7])))⟩⟩
      have a4' : last < (L[k]).tx := by omega
      have a5' : (L[k]).tx < next := by omega
      refine ⟨_, h3.at rfl rfl, cond_b (fun a8 => ⟨_, h3.at rfl rfl, cond_b (fun a9 => no2 ?_) (fun a9 => ⟨rfl, ?_⟩)⟩) (fun a8 => ⟨rfl, ?_⟩)⟩
      · rw [hl, a8, a9]
        simp
      · rw [hl, a6, a7, a8, a9]
        simp [a4', a5']
      · rw [hl, a6, a7, a8]
        simp [a4', a5']
    rintro s w4 ⟨rfl, hl2⟩ _
    refine ⟨_, h3.at rfl rfl, ⟨k2.trans0 h3.kp, k + 1, by omega, hwk, hl2⟩, by rw [hwk]; simp only [Int.toNat_natCast]; omega⟩
  · have hke : k = L.length := by omega
    subst hke
    rw [List.drop_length, liB] at hl
    rw [hl, Bool.true_and] at cp
    refine ⟨_, _, _, h2.at rfl rfl, ?_⟩
    refine loopN (fun s w3 => Kp no w1 w3 ∧ ∃ k : Nat, k ≤ D.length ∧ s.2.1 = (k : Int) ∧ diB lsn (-1) D = diB lsn s.1 (D.drop k)) (fun s _ => D.length - s.2.1.toNat) ⟨k2, 0, Nat.zero_le _, rfl, rfl⟩ ?_
    rintro ⟨page, k0, u⟩ w3 ⟨k3, k, hk, hk0, hl⟩ _
    dsimp only at hk0 hl ⊢
    subst hk0
    refine cond_d (fun hlt => ?_) (fun hge => ?_)
    · have hkl : k < D.length := by omega
      have hd : D.drop k = D[k] :: D.drop (k + 1) := List.drop_eq_getElem_cons hkl
      rw [hd, diB] at hl
      refine rd_el DV.csl (by omega) (hi.kp0 (h1.kp.trans0 k3)).d hkl hdl fun b o ha hc => ?_
      have cell1 : w3.cell? (Addr.add ((⟨b, o, none⟩ : Addr).add (Int.toNat (k : Int) * 2)) 1) = some (.int .i64 (D[k]).since) := by
        rw [Int.toNat_natCast, add_at, add_at]; exact hc 1 _ rfl
      have cell0 : w3.cell? ((⟨b, o, none⟩ : Addr).add (Int.toNat (k : Int) * 2)) = some (.int .i64 (D[k]).page) := by
        rw [Int.toNat_natCast, add_at]; exact hc 0 _ rfl
      refine ⟨_, _, ⟨cell0, cell1, trivial⟩, ?_⟩
      refine dv_cp D[k] fun b2 w4 h4 => ?_
      have no2 : diB lsn (-1) D = false → R (.returned (.bool false)) w4 := fun hh => no' w4 ((h1.kp.trans0 k3).trans0 h4.kp) (by rw [cp, hh])
      refine ⟨_, h4.at rfl rfl, cond_d (fun a4 => no2 ?_) (fun a4 => ?_)⟩
      · have : ¬ page < (D[k]).page := by omega
        rw [hl]; simp [this]
      refine ⟨_, h4.at rfl rfl, cond_d (fun a5 => no2 ?_) (fun a5 => ?_)⟩
      · have : ¬ (D[k]).page < 64 := by omega
        rw [hl]; simp [this]
      refine ⟨_, h4.at rfl rfl, rin_c ⟨_, rfl, cond_not (cond_b (fun a6 => ?_) (fun a6 => no2 (by rw [hl]; simp [a6])))⟩⟩
      refine ⟨_, h4.at rfl rfl, below_c ⟨_, rfl, cond_not (cond_b (fun a7 => ?_) (fun a7 => no2 (by rw [hl]; simp [a7])))⟩⟩
      have hwk : IntKind.wrap .i64 ((k : Int) + 1) = ((k + 1 : Nat) : Int) := by rw [wrap_i64 (by omega) (by omega)]; omega
      have a4' : page < (D[k]).page := by omega
      have a5' : (D[k]).page < 64 := by omega
      refine ⟨_, h4.at rfl rfl, ⟨k3.trans0 h4.kp, k + 1, by omega, hwk, ?_⟩, by rw [hwk]; simp only [Int.toNat_natCast]; omega⟩
      rw [hl, a6, a7]
      simp [a4', a5']
    · have hke : k = D.length := by omega
      subst hke
      rw [List.drop_length, diB] at hl
      rw [hl] at cp
      have := h w3 (h1.kp.trans0 k3)
      rw [cp] at this
      exact this
/-! The contract of the package record's Check. Conditions: none. -/
theorem rec_cp {w : World} (r : RV) (m : Mm) {K : Nat → World → Prop} (h : ∀ b w', Loc w w' b (r.ca m) T_api_Record → K b w') :
    AlF w (.cells #[.int .i64 0, .int .i64 0, .int .i64 0, .int .i64 0, .int .i64 0, .int .i64 0, .int .i64 0, .int .i64 0, .int .i64 0, .int .i64 0, .int .i64 0, .int .i64 0, .int .i64 0, .int .i64 0, .slice none 0 0, .slice none 0 0, .int .i64 0] T_api_Record) fun b w0 => StF w0 ⟨b, 0, none⟩ (.int .i64 r.lsn) fun w1 => StF w1 (Addr.add ⟨b, 0, none⟩ 1) (.int .i64 r.kind) fun w2 => StF w2 (Addr.add ⟨b, 0, none⟩ 2) (.int .i64 r.tx) fun w3 => StF w3 (Addr.add ⟨b, 0, none⟩ 3) (.int .i64 r.prev) fun w4 => StF w4 (Addr.add ⟨b, 0, none⟩ 4) (.int .i64 r.wp) fun w5 => StF w5 (Addr.add ⟨b, 0, none⟩ 5) (.int .i64 r.wi) fun w6 => StF w6 (Addr.add ⟨b, 0, none⟩ 6) (.int .i64 r.sp) fun w7 => StF w7 (Addr.add ⟨b, 0, none⟩ 7) (.int .i64 r.si) fun w8 => StF w8 (Addr.add ⟨b, 0, none⟩ 8) (.int .i64 r.delta) fun w9 => StF w9 (Addr.add ⟨b, 0, none⟩ 9) (.int .i64 r.id) fun w10 => StF w10 (Addr.add ⟨b, 0, none⟩ 10) (.int .i64 r.grp) fun w11 => StF w11 (Addr.add ⟨b, 0, none⟩ 11) (.int .i64 r.lo) fun w12 => StF w12 (Addr.add ⟨b, 0, none⟩ 12) (.int .i64 r.hi) fun w13 => StF w13 (Addr.add ⟨b, 0, none⟩ 13) (.int .i64 r.val) fun w14 => StF w14 (Addr.add ⟨b, 0, none⟩ 14) (.slice m.la m.ll m.lc) fun w15 => StF w15 (Addr.add ⟨b, 0, none⟩ 15) (.slice m.da m.dl m.dc) fun w16 => StF w16 (Addr.add ⟨b, 0, none⟩ 16) (.int .i64 r.next) fun w17 => K b w17 :=
  Loc.al (Kp.refl _ w) fun b w0 h0 _ _ =>
  h0.st rfl (by simp) fun w1 h' _ => have h1 : Loc w w1 b #[.int .i64 r.lsn, .int .i64 0, .int .i64 0, .int .i64 0, .int .i64 0, .int .i64 0, .int .i64 0, .int .i64 0, .int .i64 0, .int .i64 0, .int .i64 0, .int .i64 0, .int .i64 0, .int .i64 0, .slice none 0 0, .slice none 0 0, .int .i64 0] T_api_Record := h'
  h1.st rfl (by simp) fun w2 h' _ => have h2 : Loc w w2 b #[.int .i64 r.lsn, .int .i64 r.kind, .int .i64 0, .int .i64 0, .int .i64 0, .int .i64 0, .int .i64 0, .int .i64 0, .int .i64 0, .int .i64 0, .int .i64 0, .int .i64 0, .int .i64 0, .int .i64 0, .slice none 0 0, .slice none 0 0, .int .i64 0] T_api_Record := h'
  h2.st rfl (by simp) fun w3 h' _ => have h3 : Loc w w3 b #[.int .i64 r.lsn, .int .i64 r.kind, .int .i64 r.tx, .int .i64 0, .int .i64 0, .int .i64 0, .int .i64 0, .int .i64 0, .int .i64 0, .int .i64 0, .int .i64 0, .int .i64 0, .int .i64 0, .int .i64 0, .slice none 0 0, .slice none 0 0, .int .i64 0] T_api_Record := h'
  h3.st rfl (by simp) fun w4 h' _ => have h4 : Loc w w4 b #[.int .i64 r.lsn, .int .i64 r.kind, .int .i64 r.tx, .int .i64 r.prev, .int .i64 0, .int .i64 0, .int .i64 0, .int .i64 0, .int .i64 0, .int .i64 0, .int .i64 0, .int .i64 0, .int .i64 0, .int .i64 0, .slice none 0 0, .slice none 0 0, .int .i64 0] T_api_Record := h'
  h4.st rfl (by simp) fun w5 h' _ => have h5 : Loc w w5 b #[.int .i64 r.lsn, .int .i64 r.kind, .int .i64 r.tx, .int .i64 r.prev, .int .i64 r.wp, .int .i64 0, .int .i64 0, .int .i64 0, .int .i64 0, .int .i64 0, .int .i64 0, .int .i64 0, .int .i64 0, .int .i64 0, .slice none 0 0, .slice none 0 0, .int .i64 0] T_api_Record := h'
  h5.st rfl (by simp) fun w6 h' _ => have h6 : Loc w w6 b #[.int .i64 r.lsn, .int .i64 r.kind, .int .i64 r.tx, .int .i64 r.prev, .int .i64 r.wp, .int .i64 r.wi, .int .i64 0, .int .i64 0, .int .i64 0, .int .i64 0, .int .i64 0, .int .i64 0, .int .i64 0, .int .i64 0, .slice none 0 0, .slice none 0 0, .int .i64 0] T_api_Record := h'
  h6.st rfl (by simp) fun w7 h' _ => have h7 : Loc w w7 b #[.int .i64 r.lsn, .int .i64 r.kind, .int .i64 r.tx, .int .i64 r.prev, .int .i64 r.wp, .int .i64 r.wi, .int .i64 r.sp, .int .i64 0, .int .i64 0, .int .i64 0, .int .i64 0, .int .i64 0, .int .i64 0, .int .i64 0, .slice none 0 0, .slice none 0 0, .int .i64 0] T_api_Record := h'
  h7.st rfl (by simp) fun w8 h' _ => have h8 : Loc w w8 b #[.int .i64 r.lsn, .int .i64 r.kind, .int .i64 r.tx, .int .i64 r.prev, .int .i64 r.wp, .int .i64 r.wi, .int .i64 r.sp, .int .i64 r.si, .int .i64 0, .int .i64 0, .int .i64 0, .int .i64 0, .int .i64 0, .int .i64 0, .slice none 0 0, .slice none 0 0, .int .i64 0] T_api_Record := h'
  h8.st rfl (by simp) fun w9 h' _ => have h9 : Loc w w9 b #[.int .i64 r.lsn, .int .i64 r.kind, .int .i64 r.tx, .int .i64 r.prev, .int .i64 r.wp, .int .i64 r.wi, .int .i64 r.sp, .int .i64 r.si, .int .i64 r.delta, .int .i64 0, .int .i64 0, .int .i64 0, .int .i64 0, .int .i64 0, .slice none 0 0, .slice none 0 0, .int .i64 0] T_api_Record := h'
  h9.st rfl (by simp) fun w10 h' _ => have h10 : Loc w w10 b #[.int .i64 r.lsn, .int .i64 r.kind, .int .i64 r.tx, .int .i64 r.prev, .int .i64 r.wp, .int .i64 r.wi, .int .i64 r.sp, .int .i64 r.si, .int .i64 r.delta, .int .i64 r.id, .int .i64 0, .int .i64 0, .int .i64 0, .int .i64 0, .slice none 0 0, .slice none 0 0, .int .i64 0] T_api_Record := h'
  h10.st rfl (by simp) fun w11 h' _ => have h11 : Loc w w11 b #[.int .i64 r.lsn, .int .i64 r.kind, .int .i64 r.tx, .int .i64 r.prev, .int .i64 r.wp, .int .i64 r.wi, .int .i64 r.sp, .int .i64 r.si, .int .i64 r.delta, .int .i64 r.id, .int .i64 r.grp, .int .i64 0, .int .i64 0, .int .i64 0, .slice none 0 0, .slice none 0 0, .int .i64 0] T_api_Record := h'
  h11.st rfl (by simp) fun w12 h' _ => have h12 : Loc w w12 b #[.int .i64 r.lsn, .int .i64 r.kind, .int .i64 r.tx, .int .i64 r.prev, .int .i64 r.wp, .int .i64 r.wi, .int .i64 r.sp, .int .i64 r.si, .int .i64 r.delta, .int .i64 r.id, .int .i64 r.grp, .int .i64 r.lo, .int .i64 0, .int .i64 0, .slice none 0 0, .slice none 0 0, .int .i64 0] T_api_Record := h'
  h12.st rfl (by simp) fun w13 h' _ => have h13 : Loc w w13 b #[.int .i64 r.lsn, .int .i64 r.kind, .int .i64 r.tx, .int .i64 r.prev, .int .i64 r.wp, .int .i64 r.wi, .int .i64 r.sp, .int .i64 r.si, .int .i64 r.delta, .int .i64 r.id, .int .i64 r.grp, .int .i64 r.lo, .int .i64 r.hi, .int .i64 0, .slice none 0 0, .slice none 0 0, .int .i64 0] T_api_Record := h'
  h13.st rfl (by simp) fun w14 h' _ => have h14 : Loc w w14 b #[.int .i64 r.lsn, .int .i64 r.kind, .int .i64 r.tx, .int .i64 r.prev, .int .i64 r.wp, .int .i64 r.wi, .int .i64 r.sp, .int .i64 r.si, .int .i64 r.delta, .int .i64 r.id, .int .i64 r.grp, .int .i64 r.lo, .int .i64 r.hi, .int .i64 r.val, .slice none 0 0, .slice none 0 0, .int .i64 0] T_api_Record := h'
  h14.st rfl (by simp) fun w15 h' _ => have h15 : Loc w w15 b #[.int .i64 r.lsn, .int .i64 r.kind, .int .i64 r.tx, .int .i64 r.prev, .int .i64 r.wp, .int .i64 r.wi, .int .i64 r.sp, .int .i64 r.si, .int .i64 r.delta, .int .i64 r.id, .int .i64 r.grp, .int .i64 r.lo, .int .i64 r.hi, .int .i64 r.val, .slice m.la m.ll m.lc, .slice none 0 0, .int .i64 0] T_api_Record := h'
  h15.st rfl (by simp) fun w16 h' _ => have h16 : Loc w w16 b #[.int .i64 r.lsn, .int .i64 r.kind, .int .i64 r.tx, .int .i64 r.prev, .int .i64 r.wp, .int .i64 r.wi, .int .i64 r.sp, .int .i64 r.si, .int .i64 r.delta, .int .i64 r.id, .int .i64 r.grp, .int .i64 r.lo, .int .i64 r.hi, .int .i64 r.val, .slice m.la m.ll m.lc, .slice m.da m.dl m.dc, .int .i64 0] T_api_Record := h'
  h16.st rfl (by simp) fun w17 h' _ => have h17 : Loc w w17 b #[.int .i64 r.lsn, .int .i64 r.kind, .int .i64 r.tx, .int .i64 r.prev, .int .i64 r.wp, .int .i64 r.wi, .int .i64 r.sp, .int .i64 r.si, .int .i64 r.delta, .int .i64 r.id, .int .i64 r.grp, .int .i64 r.lo, .int .i64 r.hi, .int .i64 r.val, .slice m.la m.ll m.lc, .slice m.da m.dl m.dc, .int .i64 r.next] T_api_Record := h'
  h b w17 h17
theorem rec_rd {w : World} {b : Nat} {r : RV} {m : Mm} {T : TypeId} (h : Blk w b (r.ca m) T) {K : Int → Int → Int → Int → Int → Int → Int → Int → Int → Int → Int → Int → Int → Int → Option Addr → Nat → Nat → Option Addr → Nat → Nat → Int → Prop}
    (hk : K r.lsn r.kind r.tx r.prev r.wp r.wi r.sp r.si r.delta r.id r.grp r.lo r.hi r.val m.la m.ll m.lc m.da m.dl m.dc r.next) :
    ∃ (n0 n1 n2 n3 n4 n5 n6 n7 n8 n9 n10 n11 n12 n13 : Int) (a : Option Addr) (l c : Nat) (a' : Option Addr) (l' c' : Nat) (n14 : Int), (w.cell? ⟨b, 0, none⟩ = some (.int .i64 n0) ∧ w.cell? (Addr.add ⟨b, 0, none⟩ 1) = some (.int .i64 n1) ∧ w.cell? (Addr.add ⟨b, 0, none⟩ 2) = some (.int .i64 n2) ∧ w.cell? (Addr.add ⟨b, 0, none⟩ 3) = some (.int .i64 n3) ∧ w.cell? (Addr.add ⟨b, 0, none⟩ 4) = some (.int .i64 n4) ∧ w.cell? (Addr.add ⟨b, 0, none⟩ 5) = some (.int .i64 n5) ∧ w.cell? (Addr.add ⟨b, 0, none⟩ 6) = some (.int .i64 n6) ∧ w.cell? (Addr.add ⟨b, 0, none⟩ 7) = some (.int .i64 n7) ∧ w.cell? (Addr.add ⟨b, 0, none⟩ 8) = some (.int .i64 n8) ∧ w.cell? (Addr.add ⟨b, 0, none⟩ 9) = some (.int .i64 n9) ∧ w.cell? (Addr.add ⟨b, 0, none⟩ 10) = some (.int .i64 n10) ∧ w.cell? (Addr.add ⟨b, 0, none⟩ 11) = some (.int .i64 n11) ∧ w.cell? (Addr.add ⟨b, 0, none⟩ 12) = some (.int .i64 n12) ∧ w.cell? (Addr.add ⟨b, 0, none⟩ 13) = some (.int .i64 n13) ∧ w.cell? (Addr.add ⟨b, 0, none⟩ 14) = some (.slice a l c) ∧ w.cell? (Addr.add ⟨b, 0, none⟩ 15) = some (.slice a' l' c') ∧ w.cell? (Addr.add ⟨b, 0, none⟩ 16) = some (.int .i64 n14) ∧ True) ∧ K n0 n1 n2 n3 n4 n5 n6 n7 n8 n9 n10 n11 n12 n13 a l c a' l' c' n14 :=
  ⟨_, _, _, _, _, _, _, _, _, _, _, _, _, _, _, _, _, _, _, _, _, ⟨h.at rfl rfl, h.at rfl rfl, h.at rfl rfl, h.at rfl rfl, h.at rfl rfl, h.at rfl rfl, h.at rfl rfl, h.at rfl rfl, h.at rfl rfl, h.at rfl rfl, h.at rfl rfl, h.at rfl rfl, h.at rfl rfl, h.at rfl rfl, h.at rfl rfl, h.at rfl rfl, h.at rfl rfl, trivial⟩, hk⟩
theorem cnt_cp {w : World} (r : RV) {K : Nat → World → Prop} (h : ∀ b w', Loc w w' b #[.int .i64 r.id, .int .i64 r.grp, .int .i64 r.lo, .int .i64 r.hi, .int .i64 r.val] T_api_Counter → K b w') :
    AlF w (.cells #[.int .i64 0, .int .i64 0, .int .i64 0, .int .i64 0, .int .i64 0] T_api_Counter) fun b w1 => StF w1 ⟨b, 0, none⟩ (.int .i64 r.id) fun w2 => StF w2 (Addr.add ⟨b, 0, none⟩ 1) (.int .i64 r.grp) fun w3 =>
      StF w3 (Addr.add ⟨b, 0, none⟩ 2) (.int .i64 r.lo) fun w4 => StF w4 (Addr.add ⟨b, 0, none⟩ 3) (.int .i64 r.hi) fun w5 => StF w5 (Addr.add ⟨b, 0, none⟩ 4) (.int .i64 r.val) fun w6 => K b w6 :=
  Loc.al (Kp.refl _ w) fun b w1 h1 k1 g1 => h1.st rfl (by simp) fun w2 h2 _ => h2.st rfl (by simp) fun w3 h3 _ => h3.st rfl (by simp) fun w4 h4 _ => h4.st rfl (by simp) fun w5 h5 _ => h5.st rfl (by simp) fun w6 h6 _ => h b w6 h6
theorem Loc.st2 {w0 w : World} {b1 b2 o : Nat} {cs1 cs : Array Value} {T1 T : TypeId} {ad : Addr} {v : Value} {K : World → Prop} (h1 : Loc w0 w b1 cs1 T1) (h : Loc w0 w b2 cs T) (hne : b1 ≠ b2) (had : ad = ⟨b2, o, none⟩) (ho : o < cs.size)
    (hk : ∀ w', Loc w0 w' b1 cs1 T1 → Loc w0 w' b2 (cs.setIfInBounds o v) T → K w') : StF w ad v K :=
  h.st had ho fun w' h' k' => hk w' (h1.of k' hne h'.kp) h'
def okB (r : RV) : Bool :=
  inB r.lsn 0 2147483647 &&
  (if r.kind = 2 then slB r.wp r.wi r.sp r.si && inB r.id 1 1048576 && inB r.grp 1 1048576 && decide (r.lo ≤ r.val ∧ r.val ≤ r.hi) && decide (r.tx = 0 ∧ r.prev = 0 ∧ r.delta = 0 ∧ r.next = 0 ∧ r.live.length = 0 ∧ r.dirty.length = 0)
  else if r.kind = 8 then cpB r.next r.lsn r.live r.dirty && decide (r.tx = 0 ∧ r.prev = 0 ∧ r.wp = 0 ∧ r.wi = 0 ∧ r.sp = 0 ∧ r.si = 0 ∧ r.delta = 0 ∧ r.id = 0 ∧ r.grp = 0 ∧ r.lo = 0 ∧ r.hi = 0 ∧ r.val = 0)
  else if r.kind = 3 ∨ r.kind = 4 then slB r.wp r.wi r.sp r.si && inB r.id 1 1048576 && (inB r.prev 1 2147483647 && belB r.prev r.lsn) && inB r.tx 1 2147483647 && decide (r.grp = 0 ∧ r.lo = 0 ∧ r.hi = 0 ∧ r.val = 0 ∧ r.next = 0 ∧ r.live.length = 0 ∧ r.dirty.length = 0)
  else if r.kind = 5 ∨ r.kind = 6 ∨ r.kind = 7 then (inB r.prev 1 2147483647 && belB r.prev r.lsn) && inB r.tx 1 2147483647 && decide (r.wp = 0 ∧ r.wi = 0 ∧ r.sp = 0 ∧ r.si = 0 ∧ r.delta = 0 ∧ r.id = 0 ∧ r.grp = 0 ∧ r.lo = 0 ∧ r.hi = 0 ∧ r.val = 0 ∧ r.next = 0 ∧ r.live.length = 0 ∧ r.dirty.length = 0)
  else inB r.tx 1 2147483647 && decide (r.prev = 0 ∧ r.wp = 0 ∧ r.wi = 0 ∧ r.sp = 0 ∧ r.si = 0 ∧ r.delta = 0 ∧ r.id = 0 ∧ r.grp = 0 ∧ r.lo = 0 ∧ r.hi = 0 ∧ r.val = 0 ∧ r.next = 0 ∧ r.live.length = 0 ∧ r.dirty.length = 0))
def chkN (r : RV) : Nat := if r.kind < 1 ∨ 8 < r.kind then 70 else if okB r then 0 else 23
structure Ck (w0 w : World) (b1 b2 : Nat) (r : RV) (m : Mm) (r2 : RV) (m2 : Mm) : Prop where
  l1 : Loc w0 w b1 (r.ca m) T_api_Record
  l2 : Loc w0 w b2 (r2.ca m2) T_api_Record
theorem Ck.st {w0 w : World} {b1 b2 o : Nat} {r : RV} {m : Mm} {r2 : RV} {m2 : Mm} {ad : Addr} {v : Value} {K : World → Prop} (h : Ck w0 w b1 b2 r m r2 m2) (hne : b1 ≠ b2) (r3 : RV) (m3 : Mm) (had : ad = ⟨b2, o, none⟩) (ho : o < 17)
    (he : (r2.ca m2).setIfInBounds o v = r3.ca m3) (hk : ∀ w', Ck w0 w' b1 b2 r m r3 m3 → K w') : StF w ad v K :=
  h.l1.st2 h.l2 hne had ho fun w' h1 h2 => hk w' ⟨h1, he ▸ h2⟩
theorem check_c {w : World} {r : RV} {m : Mm} {R : Po} (hi : LiIn w m r.live r.dirty) (h : ∀ w', Kp no w w' → R (.returned (.int .i64 (chkN r : Int))) w') : GoC Tryz.prog F_record_Check #[.agg (r.ca m)] w R := by
  refine S_record_Check ?_
  unfold W_record_Check
  have hll := hi.ll
  have hdl := hi.dl
  refine Loc.al (Kp.refl _ w) fun b1 w1 h1 k1 g1 => ?_
  refine ⟨_, h1.at rfl rfl, cond_d (fun a1 => ?_) (fun a1 => ⟨_, h1.at rfl rfl, cond_d (fun a2 => ?_) (fun a2 => ?_)⟩)⟩
  · have := h w1 h1.kp
    unfold chkN at this
    rw [if_pos (by omega)] at this
    exact this
  · have := h w1 h1.kp
    unfold chkN at this
    rw [if_pos (by omega)] at this
    exact this
  have hfin : ∀ w', Kp no w w' → R (.returned (.int .i64 ((if okB r then 0 else 23 : Nat) : Int))) w' := fun w' k' => by
    have := h w' k'
    unfold chkN at this
    rw [if_neg (by omega)] at this
    exact this
  refine ⟨_, h1.at rfl rfl, rin_c ⟨_, rfl, ?_⟩⟩
  refine rec_rd h1.blk (rec_cp r m fun b2 w2 h2 => ?_)
  have hne : b1 ≠ b2 := by have := h1.blk.lt; have := h2.nw; omega
  have l1 := h1.kp' h2.kp
  have l2 := h2.up h1.kp
  clear h1 h2
  refine ⟨fun s w' => ∃ r2 m2, Ck w w' b1 b2 r m r2 m2 ∧ (s.1 && blB r2 m2) = okB r, ?_, ?_⟩
  · refine ⟨_, l1.at rfl rfl, ?_⟩
    refine ⟨fun s w' => ∃ r2 m2, Ck w w' b1 b2 r m r2 m2 ∧ (s.1 && inB r.tx 1 2147483647 && blB { r2 with tx := 0 } m2) = okB r, ?_, ?_⟩
    · refine ⟨fun s w' => ∃ r2 m2, Ck w w' b1 b2 r m r2 m2 ∧ (s.1 && (inB r.prev 1 2147483647 && belB r.prev r.lsn) && inB r.tx 1 2147483647 && blB { r2 with prev := 0, tx := 0 } m2) = okB r, ?_, ?_⟩
      · -- by kind
        have hc : Ck w w2 b1 b2 r m r m := ⟨l1, l2⟩
        have c34 : (r.kind = 3 ∨ r.kind = 4) → ∀ K20 : (Bool × Unit) → World → Prop, (∀ (s : Bool × Unit) w', Ck w w' b1 b2 r m r m → s.1 = (inB r.lsn 0 2147483647 && (slB r.wp r.wi r.sp r.si && inB r.id 1 1048576)) → K20 s w') →
            cond (inB r.lsn 0 2147483647) (∃ (n52 : Int) (n53 : Int), (w2.cell? (Addr.add ⟨b1, 0, none⟩ 4) = some (.int .i64 n52) ∧ w2.cell? (Addr.add (Addr.add ⟨b1, 0, none⟩ 4) 1) = some (.int .i64 n53) ∧ True) ∧ (∃ (n54 : Int) (n55 : Int), (w2.cell? (Addr.add ⟨b1, 0, none⟩ 6) = some (.int .i64 n54) ∧ w2.cell? (Addr.add (Addr.add ⟨b1, 0, none⟩ 6) 1) = some (.int .i64 n55) ∧ True) ∧ (CallF Tryz.prog F_record_slots #[(.agg #[(.int .i64 n52), (.int .i64 n53)]), (.agg #[(.int .i64 n54), (.int .i64 n55)])] w2 (fun r6 w45 => ∃ (q6 : Bool), r6 = (.bool q6) ∧ (cond q6 (∃ (n56 : Int), w45.cell? (Addr.add ⟨b1, 0, none⟩ 9) = some (.int .i64 n56) ∧ (CallF Tryz.prog F_record_in #[(.int .i64 n56), (.int .i64 (1 : Int)), (.int .i64 (1048576 : Int))] w45 (fun r7 w46 => ∃ (q7 : Bool), r7 = (.bool q7) ∧ (K20 (q7, ()) w46)) (PanF R))) (K20 (false, ()) w45))) (PanF R)))) (K20 (false, ()) w2) := by
          intro hk K20 hK
          refine cond_b (fun q1 => ?_) (fun q1 => hK _ _ hc (by rw [q1]; rfl))
          refine ⟨_, _, ⟨l1.at rfl rfl, l1.at rfl rfl, trivial⟩, _, _, ⟨l1.at rfl rfl, l1.at rfl rfl, trivial⟩, ?_⟩
          refine slots_c fun w3 k3 => ⟨_, rfl, cond_b (fun q2 => ?_) (fun q2 => hK _ _ ⟨l1.kp' k3, l2.kp' k3⟩ (by rw [q1, q2]; rfl))⟩
          refine ⟨_, (l1.kp' k3).at rfl rfl, rin_c ⟨_, rfl, hK _ _ ⟨l1.kp' k3, l2.kp' k3⟩ (by rw [q1, q2]; rfl)⟩⟩
        have f34 : (r.kind = 3 ∨ r.kind = 4) → ∀ m', m' = m → ∀ s : Bool × Unit, s.1 = (inB r.lsn 0 2147483647 && (slB r.wp r.wi r.sp r.si && inB r.id 1 1048576)) → (s.1 && (inB r.prev 1 2147483647 && belB r.prev r.lsn) && inB r.tx 1 2147483647 && blB { r with wp := 0, wi := 0, sp := 0, si := 0, id := 0, delta := 0, prev := 0, tx := 0 } m') = okB r := by
          intro hk m' hm s hs
          subst hm
          unfold okB
          rw [if_neg (by omega), if_neg (by omega), if_pos hk, hs]
          have : blB { r with wp := 0, wi := 0, sp := 0, si := 0, id := 0, delta := 0, prev := 0, tx := 0 } m' = decide (r.grp = 0 ∧ r.lo = 0 ∧ r.hi = 0 ∧ r.val = 0 ∧ r.next = 0 ∧ r.live.length = 0 ∧ r.dirty.length = 0) := by
            unfold blB
            refine decide_eq_decide.2 ?_
            dsimp only
            omega
          rw [this]
          simp only [Bool.and_assoc]
        have f567 : (r.kind = 5 ∨ r.kind = 6 ∨ r.kind = 7) → (inB r.lsn 0 2147483647 && (inB r.prev 1 2147483647 && belB r.prev r.lsn) && inB r.tx 1 2147483647 && blB { r with prev := 0, tx := 0 } m) = okB r := by
          intro hk
          unfold okB
          rw [if_neg (by omega), if_neg (by omega), if_neg (by omega), if_pos hk]
          have : blB { r with prev := 0, tx := 0 } m = decide (r.wp = 0 ∧ r.wi = 0 ∧ r.sp = 0 ∧ r.si = 0 ∧ r.delta = 0 ∧ r.id = 0 ∧ r.grp = 0 ∧ r.lo = 0 ∧ r.hi = 0 ∧ r.val = 0 ∧ r.next = 0 ∧ r.live.length = 0 ∧ r.dirty.length = 0) := by
            unfold blB
            refine decide_eq_decide.2 ?_
            dsimp only
            omega
          rw [this]
          simp only [Bool.and_assoc]
        refine cond_eq (fun e2 => ?_) fun n2 => cond_eq (fun e8 => ?_) fun n8 => cond_eq (fun e3 => cond_eq (fun _ => ?_) fun hh => absurd e3 hh) fun n3 => cond_eq (fun e4 => ?_) fun n4 =>
          cond_eq (fun e5 => cond_eq (fun _ => ⟨r, m, hc, f567 (by omega)⟩) fun hh => absurd e5 hh) fun n5 => cond_eq (fun e6 => cond_eq (fun _ => ⟨r, m, hc, f567 (by omega)⟩) fun hh => absurd e6 hh) fun n6 =>
          cond_eq (fun e7 => ⟨r, m, hc, f567 (by omega)⟩) fun n7 => cond_eq (fun e1 => ⟨r, m, hc, ?_⟩) fun n1 => by omega
        · -- Create
          refine ⟨_, _, _, _, _, ⟨l1.at rfl rfl, l1.at rfl rfl, l1.at rfl rfl, l1.at rfl rfl, l1.at rfl rfl, trivial⟩, ?_⟩
          refine cnt_cp r fun b3 w3 h3 => ?_
          have hc3 : Ck w w3 b1 b2 r m r m := ⟨l1.kp' h3.kp, l2.kp' h3.kp⟩
          refine ⟨fun s w' => Ck w w' b1 b2 r m r m ∧ s.1 = (inB r.lsn 0 2147483647 && (slB r.wp r.wi r.sp r.si && inB r.id 1 1048576 && inB r.grp 1 1048576 && decide (r.lo ≤ r.val ∧ r.val ≤ r.hi))), ?_, ?_⟩
          · refine cond_b (fun q1 => ?_) (fun q1 => ⟨hc3, by rw [q1]; rfl⟩)
            refine ⟨_, _, ⟨hc3.l1.at rfl rfl, hc3.l1.at rfl rfl, trivial⟩, _, _, ⟨hc3.l1.at rfl rfl, hc3.l1.at rfl rfl, trivial⟩, ?_⟩
            refine slots_c fun w4 k4 => ?_
            have hc4 : Ck w w4 b1 b2 r m r m := ⟨hc3.l1.kp' k4, hc3.l2.kp' k4⟩
            have h4 := h3.kp' k4
            refine ⟨_, rfl, cond_b (fun q2 => ?_) (fun q2 => ⟨hc4, by rw [q1, q2]; rfl⟩)⟩
            refine ⟨_, h4.at rfl rfl, rin_c ⟨_, rfl, cond_b (fun q3 => ?_) (fun q3 => ⟨hc4, by rw [q1, q2, q3]; rfl⟩)⟩⟩
            refine ⟨_, h4.at rfl rfl, rin_c ⟨_, rfl, cond_b (fun q4 => ?_) (fun q4 => ⟨hc4, by rw [q1, q2, q3, q4]; rfl⟩)⟩⟩
            refine ⟨_, h4.at rfl rfl, _, h4.at rfl rfl, cond_d (fun q5 => ?_) (fun q5 => ⟨hc4, ?_⟩)⟩
            · refine ⟨_, h4.at rfl rfl, _, h4.at rfl rfl, hc4, ?_⟩
              rw [q1, q2, q3, q4]
              exact decide_eq_decide.2 (by omega)
            · rw [q1, q2, q3, q4]
              exact (decide_eq_false (by omega)).symm
          · rintro ⟨q, u⟩ w4 ⟨h4, hq⟩ _
            dsimp only at hq
            refine h4.st hne { r with wp := 0 } m rfl (Nat.le_of_ble_eq_true rfl) rfl fun w5 h4 => ?_
            refine h4.st hne { r with wp := 0, wi := 0 } m rfl (Nat.le_of_ble_eq_true rfl) rfl fun w5 h4 => ?_
            refine h4.st hne { r with wp := 0, wi := 0, sp := 0 } m rfl (Nat.le_of_ble_eq_true rfl) rfl fun w5 h4 => ?_
            refine h4.st hne { r with wp := 0, wi := 0, sp := 0, si := 0 } m rfl (Nat.le_of_ble_eq_true rfl) rfl fun w5 h4 => ?_
            refine h4.st hne { r with wp := 0, wi := 0, sp := 0, si := 0, id := 0 } m rfl (Nat.le_of_ble_eq_true rfl) rfl fun w5 h4 => ?_
            refine h4.st hne { r with wp := 0, wi := 0, sp := 0, si := 0, id := 0, grp := 0 } m rfl (Nat.le_of_ble_eq_true rfl) rfl fun w5 h4 => ?_
            refine h4.st hne { r with wp := 0, wi := 0, sp := 0, si := 0, id := 0, grp := 0, lo := 0 } m rfl (Nat.le_of_ble_eq_true rfl) rfl fun w5 h4 => ?_
            refine h4.st hne { r with wp := 0, wi := 0, sp := 0, si := 0, id := 0, grp := 0, lo := 0, hi := 0 } m rfl (Nat.le_of_ble_eq_true rfl) rfl fun w5 h4 => ?_
            refine h4.st hne { r with wp := 0, wi := 0, sp := 0, si := 0, id := 0, grp := 0, lo := 0, hi := 0, val := 0 } m rfl (Nat.le_of_ble_eq_true rfl) rfl fun w5 h4 => ?_
            refine ⟨_, _, h4, ?_⟩
            dsimp only
            have : blB { r with wp := 0, wi := 0, sp := 0, si := 0, id := 0, grp := 0, lo := 0, hi := 0, val := 0 } m = decide (r.tx = 0 ∧ r.prev = 0 ∧ r.delta = 0 ∧ r.next = 0 ∧ r.live.length = 0 ∧ r.dirty.length = 0) := by
              unfold blB
              refine decide_eq_decide.2 ?_
              dsimp only
              omega
            rw [this, hq]
            unfold okB
            rw [if_pos e2]
            simp only [Bool.and_assoc]
        · -- Checkpoint
          refine ⟨fun s w' => Ck w w' b1 b2 r m r m ∧ s.1 = (inB r.lsn 0 2147483647 && cpB r.next r.lsn r.live r.dirty), ?_, ?_⟩
          · refine cond_b (fun q1 => ?_) (fun q1 => ⟨hc, by rw [q1]; rfl⟩)
            refine ⟨_, _, _, _, _, _, _, ⟨l1.at rfl rfl, l1.at rfl rfl, l1.at rfl rfl, trivial⟩, _, l1.at rfl rfl, ?_⟩
            refine checkpoint_c (m := m) (hi.kp0 l1.kp) fun w4 k4 => ⟨_, rfl, ⟨l1.kp' k4, l2.kp' k4⟩, by rw [q1]; rfl⟩
          · rintro ⟨q, u⟩ w4 ⟨h4, hq⟩ _
            dsimp only at hq
            refine h4.st hne r { m with la := none, ll := 0, lc := 0 } rfl (Nat.le_of_ble_eq_true rfl) rfl fun w5 h4 => ?_
            refine h4.st hne r {} rfl (Nat.le_of_ble_eq_true rfl) rfl fun w5 h4 => ?_
            refine h4.st hne { r with next := 0 } {} rfl (Nat.le_of_ble_eq_true rfl) rfl fun w5 h4 => ?_
            refine ⟨_, _, h4, ?_⟩
            dsimp only
            have : blB { r with next := 0 } {} = decide (r.tx = 0 ∧ r.prev = 0 ∧ r.wp = 0 ∧ r.wi = 0 ∧ r.sp = 0 ∧ r.si = 0 ∧ r.delta = 0 ∧ r.id = 0 ∧ r.grp = 0 ∧ r.lo = 0 ∧ r.hi = 0 ∧ r.val = 0) := by
              unfold blB
              refine decide_eq_decide.2 ?_
              dsimp only
              omega
            rw [this, hq]
            unfold okB
            rw [if_neg n2, if_pos e8]
            simp only [Bool.and_assoc]
        · refine ⟨fun s w' => Ck w w' b1 b2 r m r m ∧ s.1 = (inB r.lsn 0 2147483647 && (slB r.wp r.wi r.sp r.si && inB r.id 1 1048576)), c34 (.inl e3) (fun s w' => Ck w w' b1 b2 r m r m ∧ s.1 = (inB r.lsn 0 2147483647 && (slB r.wp r.wi r.sp r.si && inB r.id 1 1048576))) fun s w' hc' hs => ⟨hc', hs⟩, ?_⟩
          rintro ⟨q, u⟩ w4 ⟨h4, hq⟩ _
          refine h4.st hne { r with wp := 0 } m rfl (Nat.le_of_ble_eq_true rfl) rfl fun w5 h4 => ?_
          refine h4.st hne { r with wp := 0, wi := 0 } m rfl (Nat.le_of_ble_eq_true rfl) rfl fun w5 h4 => ?_
          refine h4.st hne { r with wp := 0, wi := 0, sp := 0 } m rfl (Nat.le_of_ble_eq_true rfl) rfl fun w5 h4 => ?_
          refine h4.st hne { r with wp := 0, wi := 0, sp := 0, si := 0 } m rfl (Nat.le_of_ble_eq_true rfl) rfl fun w5 h4 => ?_
          refine h4.st hne { r with wp := 0, wi := 0, sp := 0, si := 0, id := 0 } m rfl (Nat.le_of_ble_eq_true rfl) rfl fun w5 h4 => ?_
          refine h4.st hne { r with wp := 0, wi := 0, sp := 0, si := 0, id := 0, delta := 0 } m rfl (Nat.le_of_ble_eq_true rfl) rfl fun w5 h4 => ?_
          exact ⟨_, _, h4, f34 (.inl e3) m rfl (q, u) hq⟩
        · refine ⟨fun s w' => Ck w w' b1 b2 r m r m ∧ s.1 = (inB r.lsn 0 2147483647 && (slB r.wp r.wi r.sp r.si && inB r.id 1 1048576)), c34 (.inr e4) (fun s w' => Ck w w' b1 b2 r m r m ∧ s.1 = (inB r.lsn 0 2147483647 && (slB r.wp r.wi r.sp r.si && inB r.id 1 1048576))) fun s w' hc' hs => ⟨hc', hs⟩, ?_⟩
          rintro ⟨q, u⟩ w4 ⟨h4, hq⟩ _
          refine h4.st hne { r with wp := 0 } m rfl (Nat.le_of_ble_eq_true rfl) rfl fun w5 h4 => ?_
          refine h4.st hne { r with wp := 0, wi := 0 } m rfl (Nat.le_of_ble_eq_true rfl) rfl fun w5 h4 => ?_
          refine h4.st hne { r with wp := 0, wi := 0, sp := 0 } m rfl (Nat.le_of_ble_eq_true rfl) rfl fun w5 h4 => ?_
          refine h4.st hne { r with wp := 0, wi := 0, sp := 0, si := 0 } m rfl (Nat.le_of_ble_eq_true rfl) rfl fun w5 h4 => ?_
          refine h4.st hne { r with wp := 0, wi := 0, sp := 0, si := 0, id := 0 } m rfl (Nat.le_of_ble_eq_true rfl) rfl fun w5 h4 => ?_
          refine h4.st hne { r with wp := 0, wi := 0, sp := 0, si := 0, id := 0, delta := 0 } m rfl (Nat.le_of_ble_eq_true rfl) rfl fun w5 h4 => ?_
          exact ⟨_, _, h4, f34 (.inr e4) m rfl (q, u) hq⟩
        · -- Begin
          have : blB { r with tx := 0 } m = decide (r.prev = 0 ∧ r.wp = 0 ∧ r.wi = 0 ∧ r.sp = 0 ∧ r.si = 0 ∧ r.delta = 0 ∧ r.id = 0 ∧ r.grp = 0 ∧ r.lo = 0 ∧ r.hi = 0 ∧ r.val = 0 ∧ r.next = 0 ∧ r.live.length = 0 ∧ r.dirty.length = 0) := by
            unfold blB
            refine decide_eq_decide.2 ?_
            dsimp only
            omega
          dsimp only
          rw [this]
          unfold okB
          rw [if_neg n2, if_neg n8, if_neg (by omega), if_neg (by omega)]
          simp only [Bool.and_assoc]
      · rintro ⟨q, u⟩ w3 ⟨r2, m2, hc, hq⟩ _
        dsimp only at hq
        refine ⟨fun s w' => Ck w w' b1 b2 r m r2 m2 ∧ s.1 = (q && (inB r.prev 1 2147483647 && belB r.prev r.lsn)), ?_, ?_⟩
        · refine cond_b (fun q1 => ?_) (fun q1 => ⟨hc, by dsimp only at q1; rw [q1]; rfl⟩)
          dsimp only at q1
          refine ⟨_, hc.l1.at rfl rfl, rin_c ⟨_, rfl, cond_b (fun q2 => ?_) (fun q2 => ⟨hc, by rw [q1, q2]; rfl⟩)⟩⟩
          refine ⟨_, hc.l1.at rfl rfl, _, hc.l1.at rfl rfl, below_c ⟨_, rfl, hc, by rw [q1, q2]; rfl⟩⟩
        · rintro ⟨q', u'⟩ w4 ⟨hc4, hq4⟩ _
          dsimp only at hq4
          refine hc4.st hne { r2 with prev := 0 } m2 rfl (Nat.le_of_ble_eq_true rfl) rfl fun w5 h5 => ⟨_, _, h5, ?_⟩
          dsimp only
          rw [hq4]
          exact hq
    · rintro ⟨q, u⟩ w3 ⟨r2, m2, hc, hq⟩ _
      dsimp only at hq
      refine ⟨fun s w' => Ck w w' b1 b2 r m r2 m2 ∧ s.1 = (q && inB r.tx 1 2147483647), ?_, ?_⟩
      · refine cond_b (fun q1 => ?_) (fun q1 => ⟨hc, by dsimp only at q1; rw [q1]; rfl⟩)
        dsimp only at q1
        refine ⟨_, hc.l1.at rfl rfl, rin_c ⟨_, rfl, hc, by rw [q1]; rfl⟩⟩
      · rintro ⟨q', u'⟩ w4 ⟨hc4, hq4⟩ _
        dsimp only at hq4
        refine hc4.st hne { r2 with tx := 0 } m2 rfl (Nat.le_of_ble_eq_true rfl) rfl fun w5 h5 => ⟨_, _, h5, ?_⟩
        dsimp only
        rw [hq4]
        exact hq
  · rintro ⟨q, u⟩ w3 ⟨r2, m2, hc, hq⟩ _
    dsimp only at hq
    refine cond_not (cond_b (fun a => ?_) (fun a => ?_))
    · refine rec_rd hc.l2.blk (blank_c (r := r2) (m := m2) fun w4 k4 => ⟨_, rfl, ?_⟩)
      have a' : q = true := a
      rw [a', Bool.true_and] at hq
      rw [hq]
      have hh := hfin w4 (hc.l2.kp.trans0 k4)
      refine cond_not (cond_b (fun b => ?_) (fun b => ?_))
      · rw [b] at hh
        exact hh
      · rw [b] at hh
        exact hh
    · have a' : q = false := a
      rw [a', Bool.false_and] at hq
      have hh := hfin w3 hc.l2.kp
      rw [← hq] at hh
      exact hh
/-! The contract of the package record's fields. Conditions: none. -/
theorem er_pint : ElemRow Tryz.prog T_s_p_int T_p_int (.pointer none) 1 8 := elemRow (by kernel_rfl) (by kernel_rfl) rfl
def iof (k : Int) : List Nat := if k = 2 then [4, 5, 6, 7, 9, 10] else if k = 8 then [16] else if k = 3 ∨ k = 4 then [2, 3, 4, 5, 6, 7, 9] else if k = 5 ∨ k = 6 ∨ k = 7 then [2, 3] else [2]
def sof (k : Int) : List Nat := if k = 2 then [11, 12, 13] else if k = 3 ∨ k = 4 then [8] else []
def pv (b o : Nat) : Value := .pointer (some ⟨b, o, none⟩)
theorem ahead_c {w0 w : World} {b o : Nat} {a : Option Addr} {l c : Nat} {xs : List Value} (k : Kp no w0 w) (hr : Rd w a xs) (hl : xs.length = l) (h0 : a = none → l = 0) (hl7 : l ≤ 20) (h1 : ∀ u ∈ xs, u.oneCell' = true) {ad : Addr} (had : ad = ⟨b, o, none⟩) {K : Option Addr → Nat → Nat → World → Prop}
    (h : ∀ a' c' w', Kp no w0 w' → Kp no w w' → Rd w' a' (pv b o :: xs) → a' ≠ none → (∀ k, Is a' k → w.heap.size ≤ k) → K a' (l + 1) c' w') :
    AlF w (.cells #[.pointer (some ad)] T_p_int) fun b8 w10 => RunF Tryz.prog (Builtin.append_ #[T_s_p_int, T_s_p_int] T_s_p_int #[.slice (some ⟨b8, 0, none⟩) 1 1, .slice a l c]) w10 fun r1 w11 => ∃ (a1 : Option Addr) (l1 c1 : Nat), r1 = .slice a1 l1 c1 ∧ K a1 l1 c1 w11 := by
  subst had
  refine AlF.intro fun b8 w1 hb8 hblk k1 _ => ?_
  have hs0 : Sl w1 T_p_int 1 (some ⟨b8, 0, none⟩) 1 1 [pv b o] := ⟨rfl, Nat.le_refl _, .inr ⟨b8, _, rfl, hblk, rfl, rfl⟩⟩
  refine append_own er_pint hs0 (hr.kp0 k1) (by rw [hl]; omega) h0 h1 (by omega) (by omega) fun a' c' w' hs' hk hi _ _ => ?_
  have kk : Kp no w w' := k1.trans hk (fun _ _ h => h) fun j hj hh => by
    obtain ⟨ad, had, hj2⟩ := hh
    cases had
    dsimp only at hj2
    omega
  have e : 1 + l = l + 1 := by omega
  rw [e]
  refine ⟨a', l + 1, c', rfl, h a' c' w' (k.trans0 kk) kk hs'.rd ?_ fun j hj => ?_⟩
  rotate_left
  · rcases hi j hj with ⟨ad, had, hj2⟩ | hj2
    · cases had
      dsimp only at hj2
      omega
    · have := k1.size
      omega
  intro hn
  obtain ⟨b', cur, ha, _⟩ := hs'.addr (by omega)
  rw [hn] at ha
  cases ha
theorem fr_some {w : World} {b o : Nat} (h : w.heap.size ≤ b) : Fresh w (some ⟨b, o, none⟩) := fun k hk => by
  obtain ⟨ad, had, hk⟩ := hk
  cases had
  dsimp only at hk
  omega
theorem pv_one {b : Nat} {l : List Nat} : ∀ u ∈ l.map (pv b), u.oneCell' = true := fun u hu => by
  obtain ⟨x, _, rfl⟩ := List.mem_map.1 hu
  rfl
theorem fields_c {w : World} {b : Nat} {r : RV} {m : Mm} {R : Po} (hb : Blk w b (r.ca m) T_api_Record) (hk1 : 1 ≤ r.kind) (hk8 : r.kind ≤ 8)
    (h : ∀ a c a' c' w', Kp no w w' → Rd w' a ((iof r.kind).map (pv b)) → Rd w' a' ((sof r.kind).map (pv b)) → Fresh w a → Fresh w a' → R (.returned (.tuple #[.slice a (iof r.kind).length c, .slice a' (sof r.kind).length c'])) w') : GoC Tryz.prog F_record_fields #[.pointer (some ⟨b, 0, none⟩)] w R := by
  refine S_record_fields ?_
  unfold W_record_fields
  refine NilF.intro rfl ⟨_, hb.at rfl rfl, ?_⟩
  refine ⟨fun s w' => r.kind ≠ 2 ∧ r.kind ≠ 8 ∧ Kp no w w' ∧ ∃ A B : List Nat, iof r.kind = 2 :: A ∧ sof r.kind = B ∧ A.length ≤ 10 ∧ Rd w' s.1.1 (A.map (pv b)) ∧ A.length = s.1.2.1 ∧ (s.1.1 = none → s.1.2.1 = 0) ∧ Rd w' s.2.1.1 (B.map (pv b)) ∧ B.length = s.2.1.2.1 ∧ Fresh w s.2.1.1, ?_, ?_⟩
  · refine ⟨fun s w' => r.kind ≠ 2 ∧ r.kind ≠ 8 ∧ Kp no w w' ∧ ∃ A B : List Nat, iof r.kind = 2 :: 3 :: A ∧ sof r.kind = B ∧ A.length ≤ 9 ∧ Rd w' s.1.1 (A.map (pv b)) ∧ A.length = s.1.2.1 ∧ (s.1.1 = none → s.1.2.1 = 0) ∧ Rd w' s.2.1.1 (B.map (pv b)) ∧ B.length = s.2.1.2.1 ∧ Fresh w s.2.1.1, ?_, ?_⟩
    · refine ⟨fun _ w' => w' = w ∧ (r.kind = 3 ∨ r.kind = 4), ?_, ?_⟩
      · have c567 : (r.kind = 5 ∨ r.kind = 6 ∨ r.kind = 7) → iof r.kind = 2 :: 3 :: [] ∧ sof r.kind = [] := fun hh => by
          unfold iof sof
          rw [if_neg (by omega), if_neg (by omega), if_neg (by omega), if_pos hh, if_neg (by omega), if_neg (by omega)]
          exact ⟨rfl, rfl⟩
        have j14 : (r.kind = 5 ∨ r.kind = 6 ∨ r.kind = 7) → r.kind ≠ 2 ∧ r.kind ≠ 8 ∧ Kp no w w ∧ ∃ A B : List Nat, iof r.kind = 2 :: 3 :: A ∧ sof r.kind = B ∧ A.length ≤ 9 ∧ Rd w none (A.map (pv b)) ∧ A.length = 0 ∧ ((none : Option Addr) = none → 0 = 0) ∧ Rd w none (B.map (pv b)) ∧ B.length = 0 ∧ Fresh w none := fun hh =>
          ⟨by omega, by omega, Kp.refl _ _, [], [], (c567 hh).1, (c567 hh).2, by simp, Rd.nil _ _, rfl, fun _ => rfl, Rd.nil _ _, rfl, fun k hk => (is_none hk).elim⟩
        refine cond_eq (fun e2 => ?_) fun n2 => cond_eq (fun e8 => ?_) fun n8 => cond_eq (fun e3 => cond_eq (fun _ => ⟨rfl, .inl e3⟩) fun hh => absurd e3 hh) fun n3 => cond_eq (fun e4 => ⟨rfl, .inr e4⟩) fun n4 =>
          cond_eq (fun e5 => cond_eq (fun _ => j14 (by omega)) fun hh => absurd e5 hh) fun n5 => cond_eq (fun e6 => cond_eq (fun _ => j14 (by omega)) fun hh => absurd e6 hh) fun n6 =>
          cond_eq (fun e7 => j14 (by omega)) fun n7 => ?_
        · -- Create
          have hi : iof r.kind = [4, 5, 6, 7, 9, 10] := by unfold iof; rw [if_pos e2]
          have hs : sof r.kind = [11, 12, 13] := by unfold sof; rw [if_pos e2]
          rw [hi, hs] at h
          refine NilF.intro rfl ⟨fun w' => Kp no w w', Kp.drew w 1, NilF.intro rfl (NilF.intro rfl (NilF.intro rfl (NilF.intro rfl ⟨?_, ?_⟩)))⟩
          · refine AlF.intro fun b1 w1 hb1e hb1 k1 _ => ⟨(Kp.drew w 1).trans0 k1, AlF.intro fun b2 w2 hb2e hb2 k2 _ => ⟨((Kp.drew w 1).trans0 k1).trans0 k2, h _ _ _ _ w2 (((Kp.drew w 1).trans0 k1).trans0 k2) (rd_cells (k2.blk hb1 id) rfl) (rd_cells hb2 rfl) (fr_some (by rw [hb1e]; exact Nat.le_refl _)) (fr_some (by rw [hb2e]; exact ((Kp.drew w 1).trans0 k1).size))⟩⟩
          · refine AlF.intro fun b1 w1 hb1e hb1 k1 _ => ⟨(Kp.drew w 1).trans0 k1, AlF.intro fun b2 w2 hb2e hb2 k2 _ => ⟨((Kp.drew w 1).trans0 k1).trans0 k2, h _ _ _ _ w2 (((Kp.drew w 1).trans0 k1).trans0 k2) (rd_cells hb2 rfl) (rd_cells (k2.blk hb1 id) rfl) (fr_some (by rw [hb2e]; exact ((Kp.drew w 1).trans0 k1).size)) (fr_some (by rw [hb1e]; exact Nat.le_refl _))⟩⟩
        · have hi : iof r.kind = [16] := by unfold iof; rw [if_neg n2, if_pos e8]
          have hs : sof r.kind = [] := by unfold sof; rw [if_neg n2, if_neg (by omega)]
          rw [hi, hs] at h
          refine NilF.intro rfl (AlF.intro fun b1 w1 hb1e hb1 k1 _ => h _ _ _ _ w1 k1 (rd_cells hb1 rfl) (Rd.nil _ _) (fr_some (by omega)) fun k hk => (is_none hk).elim)
        · have e1 : r.kind = 1 := by omega
          have hi : iof r.kind = [2] := by unfold iof; rw [if_neg n2, if_neg n8, if_neg (by omega), if_neg (by omega)]
          have hs : sof r.kind = [] := by unfold sof; rw [if_neg n2, if_neg (by omega)]
          exact ⟨n2, n8, Kp.refl _ _, [], [], hi, hs, by simp, Rd.nil _ _, rfl, fun _ => rfl, Rd.nil _ _, rfl, fun k hk => (is_none hk).elim⟩
      · rintro _ w1 ⟨rfl, e34⟩ _
        refine NilF.intro rfl (NilF.intro rfl (NilF.intro rfl (NilF.intro rfl (NilF.intro rfl (AlF.intro fun b6 w2 hb6e hb6 k2 _ => NilF.intro rfl (AlF.intro fun b7 w3 hb7e hb7 k3 _ => ?_))))))
        have hi : iof r.kind = 2 :: 3 :: [4, 5, 6, 7, 9] := by unfold iof; rw [if_neg (by omega), if_neg (by omega), if_pos e34]
        have hs : sof r.kind = [8] := by unfold sof; rw [if_neg (by omega), if_pos e34]
        exact ⟨by omega, by omega, (Kp.drew w1 1).trans0 (k2.trans0 k3), _, _, hi, hs, by simp, rd_cells (k3.blk hb6 id) rfl, rfl, (fun h0 => by cases h0), rd_cells hb7 rfl, rfl, fr_some (by rw [hb7e]; exact ((Kp.drew w1 1).trans0 k2).size)⟩
    · rintro ⟨⟨a, l, c⟩, ⟨a', l', c'⟩, u⟩ w1 ⟨n2, n8, k1, A, B, hA, hB, hA9, hr, hl, h0, hr', hl', hf'⟩ _
      dsimp only at hr hl h0 hr' hl' ⊢
      refine NilF.intro rfl (ahead_c (b := b) (o := 3) k1 hr (by simpa using hl) h0 (by omega) pv_one rfl fun a2 c2 w2 k2 k12 hr2 hn2 hf2 => ?_)
      exact ⟨n2, n8, k2, 3 :: A, B, hA, hB, by simp; omega, hr2, by simp; omega, fun h0 => absurd h0 hn2, hr'.kp0 k12, hl', hf'⟩
  · rintro ⟨⟨a, l, c⟩, ⟨a', l', c'⟩, u⟩ w1 ⟨n2, n8, k1, A, B, hA, hB, hA9, hr, hl, h0, hr', hl', hf'⟩ _
    dsimp only at hr hl h0 hr' hl' ⊢
    refine NilF.intro rfl (ahead_c (b := b) (o := 2) k1 hr (by simpa using hl) h0 (by omega) pv_one rfl fun a2 c2 w2 k2 k12 hr2 hn2 hf2 => ?_)
    have hl2 : l + 1 = (iof r.kind).length := by rw [hA]; simp; omega
    have hl3 : l' = (sof r.kind).length := by rw [hB]; exact hl'.symm
    rw [hl2, hl3]
    refine h a2 c2 a' c' w2 k2 ?_ ?_ (fun k hk => by have := hf2 k hk; have := k1.size; omega) hf'
    · rw [hA]; exact hr2
    · rw [hB]; exact hr'.kp0 k12
theorem fclone_c {a : Option Addr} {l c : Nat} {bs : List UInt8} {w : World} {R : Po} (hr : Rd w a (bvs bs)) (hl : bs.length = l) (h0 : a = none → l = 0) (hb : l ≤ 140737488355328)
    (h : ∀ a' c' w', Sl w' T_uint8 1 a' l c' (bvs bs) → Kp no w w' → Fresh w a' → R (.returned (.slice a' l c')) w') : GoC Tryz.prog F_slices_Clone_s_byte_byte #[.slice a l c] w R := by
  refine S_slices_Clone_s_byte_byte ?_
  unfold W_slices_Clone_s_byte_byte
  refine cond_b (fun ha => ?_) (fun ha => ?_)
  · have ha' : a = none := by simpa using ha
    have hl0 := h0 ha'
    subst hl0
    have : bs = [] := List.eq_nil_of_length_eq_zero hl
    subst this
    exact h none 0 w (Sl.nil _ _ _) (Kp.refl _ _) (by rintro k ⟨ad, had, _⟩; cases had)
  · refine AlF.intro fun b w1 hbe hblk k1 _ => ?_
    have hs0 : Sl w1 T_uint8 1 (some ⟨b, 0, none⟩) 0 0 [] := ⟨by simp, Nat.le_refl _, .inr ⟨b, _, rfl, hblk, by simp, by simp⟩⟩
    refine append_own er_u8 hs0 (hr.kp0 k1) (by rw [bvs_len]; omega) (fun hn => by rw [hn] at ha; cases ha) bvs_one (by omega) (by omega) fun a' c' w' hs hk hi hroom hgrow => ?_
    simp only [Nat.zero_add, List.nil_append] at hs hroom hgrow ⊢
    refine ⟨a', l, c', rfl, h a' c' w' hs ?_ ?_⟩
    · refine k1.trans hk (fun k _ h => h) fun k hk1 hk2 => ?_
      obtain ⟨ad, had, hk2⟩ := hk2
      cases had
      simp only at hk2
      omega
    · intro k hk2
      rcases hi k hk2 with ⟨ad, had, hk3⟩ | hk3
      · cases had; simp only at hk3; omega
      · have := k1.size; omega
/-! ### The writer -/
def vform (n : Nat) : List UInt8 := if n < 128 then [UInt8.ofNat n] else UInt8.ofNat (n % 128 + 128) :: vform (n / 128)
termination_by n
decreasing_by omega
theorem vform_len (n : Nat) : ∀ k, n < 128 ^ (k + 1) → (vform n).length ≤ k + 1 := by
  intro k
  induction k generalizing n with
  | zero => intro h; unfold vform; rw [if_pos (by omega)]; simp
  | succ k ih =>
    intro h
    unfold vform
    split
    · simp
    · simp only [List.length_cons]
      have := ih (n / 128) (by rw [Nat.pow_succ] at h; omega)
      omega
theorem vform_len64 {n : Nat} (h : n < 18446744073709551616) : (vform n).length ≤ 10 := vform_len n 9 (by omega)
theorem vform_pos (n : Nat) : 0 < (vform n).length := by unfold vform; split <;> simp
structure Wr (w : World) (B : Nat) (g : Option Addr) (bs : List UInt8) : Prop where
  ex : ∃ l c, Blk w B #[.slice g l c] T_field_Writer ∧ Sl w T_uint8 1 g l c (bvs bs)
  ap : ¬ Is g B
def fpW (B : Nat) (g : Option Addr) : Nat → Prop := fun k => k = B ∨ Is g k
theorem Wr.kp {S : Nat → Prop} {w w' : World} {B : Nat} {g : Option Addr} {bs : List UInt8} (h : Wr w B g bs) (k : Kp S w w') (hn : ∀ b, fpW B g b → ¬ S b) : Wr w' B g bs := by
  obtain ⟨⟨l, c, h1, h2⟩, h3⟩ := h
  exact ⟨⟨l, c, k.blk h1 (hn _ (.inl rfl)), h2.kp k fun b hb => hn b (.inr hb)⟩, h3⟩
theorem Wr.kp0 {w w' : World} {B : Nat} {g : Option Addr} {bs : List UInt8} (h : Wr w B g bs) (k : Kp no w w') : Wr w' B g bs := h.kp k fun _ _ h => h.elim
theorem Wr.lt {w : World} {B : Nat} {g : Option Addr} {bs : List UInt8} (h : Wr w B g bs) : ∀ k, fpW B g k → k < w.heap.size := by
  obtain ⟨⟨l, c, h1, h2⟩, h3⟩ := h
  rintro k (rfl | hk)
  · exact h1.lt
  · exact h2.lt k hk
theorem newWriter_c {w : World} {R : Po} (h : ∀ B w', Wr w' B none [] → Kp no w w' → w.heap.size ≤ B → R (.returned (.pointer (some ⟨B, 0, none⟩))) w') : GoC Tryz.prog F_field_NewWriter #[] w R := by
  refine S_field_NewWriter ?_
  unfold W_field_NewWriter
  refine AlF.intro fun b w1 hbe hblk k1 _ => h b w1 ⟨⟨0, 0, hblk, Sl.nil _ _ _⟩, by rintro ⟨ad, had, _⟩; cases had⟩ k1 (by omega)
theorem wr_push {w : World} {B : Nat} {g : Option Addr} {bs : List UInt8} (hw : Wr w B g bs) (x : UInt8) (v : Int) (hv : v = (x.toNat : Int)) (hb : bs.length < 140737488355328) {K : World → Prop}
    (h : ∀ g' w', Wr w' B g' (bs ++ [x]) → Kp (fpW B g) w w' → (∀ k, Is g' k → Is g k ∨ w.heap.size ≤ k) → K w') :
    NilF (some ⟨B, 0, none⟩) fun d1 => ∃ (a1 : Option Addr) (l1 c1 : Nat), w.cell? d1 = some (.slice a1 l1 c1) ∧ AlF w (.cells #[.int .u8 v] T_uint8) fun b1 w2 =>
      RunF Tryz.prog (Builtin.append_ #[T_s_uint8, T_s_uint8] T_s_uint8 #[.slice a1 l1 c1, .slice (some ⟨b1, 0, none⟩) 1 1]) w2 fun r1 w3 => ∃ (a2 : Option Addr) (l2 c2 : Nat), r1 = .slice a2 l2 c2 ∧ NilF (some ⟨B, 0, none⟩) fun d2 => StF w3 d2 (.slice a2 l2 c2) K := by
  obtain ⟨⟨l, c, h1, h2⟩, h3⟩ := hw
  refine ⟨g, l, c, by rw [h1.cell]; rfl, AlF.intro fun b w1 hbe hblk k1 hsz => ?_⟩
  have hn : Rd w1 (some ⟨b, 0, none⟩) (bvs [x]) := Rd.of_blk hblk fun i u hu => by
    subst hv
    rw [Nat.zero_add]
    match i, hu with
    | 0, hu => exact hu
  have hll : bs.length = l := by rw [← bvs_len]; exact h2.len
  refine append_own er_u8 (h2.kp0 k1) hn (by simp [bvs]) (fun hh => by cases hh) bvs_one (by omega) (by omega) fun a' c' w' hs hk hi _ _ => ?_
  have hB : B < w.heap.size := h1.lt
  have hB1 : Blk w1 B #[.slice g l c] T_field_Writer := k1.blk h1 id
  have hB2 : Blk w' B #[.slice g l c] T_field_Writer := hk.blk hB1 h3
  have hne : ¬ Is a' B := fun hh => by
    rcases hi B hh with hh | hh
    · exact h3 hh
    · omega
  refine ⟨a', l + 1, c', rfl, StF.intro hB2 (by simp) fun w2 hb2 k2 _ => ?_⟩
  have hs2 : Sl w2 T_uint8 1 a' (l + 1) c' (bvs (bs ++ [x])) := by
    rw [bvs_app]
    refine hs.kp k2 fun k hk hkB => ?_
    subst hkB
    exact hne hk
  refine h a' w2 ⟨⟨l + 1, c', by simpa using hb2, hs2⟩, hne⟩ ?_ ?_
  · refine (k1.trans hk (fun k _ h => h.elim) (fun k _ h => h)).trans k2 (fun k _ h => .inr h) (fun k _ h => .inl h)
  · intro k hk2
    rcases hi k hk2 with hh | hh
    · exact .inl hh
    · exact .inr (by omega)
theorem writer_U {w : World} {B : Nat} {g : Option Addr} {bs : List UInt8} {n : Nat} {R : Po} (hw : Wr w B g bs) (hn : n < 18446744073709551616) (hb : bs.length + 20 < 140737488355329)
    (h : ∀ g' w', Wr w' B g' (bs ++ vform n) → Kp (fpW B g) w w' → (∀ k, Is g' k → Is g k ∨ w.heap.size ≤ k) → R (.returned (.tuple #[])) w') :
    GoC Tryz.prog F_field_Writer_U #[.pointer (some ⟨B, 0, none⟩), .int .u64 (n : Int)] w R := by
  refine S_field_Writer_U ?_
  unfold W_field_Writer_U
  have h10 := vform_len64 hn
  refine loopN (fun s w1 => ∃ (m : Nat) (g1 : Option Addr) (bs1 : List UInt8), s.1 = (m : Int) ∧ m < 18446744073709551616 ∧ Wr w1 B g1 bs1 ∧ bs1 ++ vform m = bs ++ vform n ∧ Kp (fpW B g) w w1 ∧ (∀ k, Is g1 k → Is g k ∨ w.heap.size ≤ k)) (fun s _ => s.1.toNat)
    ⟨n, g, bs, rfl, hn, hw, rfl, Kp.refl _ _, fun k hk => .inl hk⟩ ?_
  rintro ⟨s, u⟩ w1 ⟨m, g1, bs1, hs, hm, hw1, he, k1, hi1⟩ _
  dsimp only at hs ⊢
  subst hs
  have hlen : bs1.length < 140737488355328 := by
    have := congrArg List.length he
    simp only [List.length_append] at this
    omega
  have fp : ∀ k, k < w.heap.size → fpW B g1 k → fpW B g k := by
    rintro k hk (hh | hh)
    · exact .inl hh
    · rcases hi1 k hh with h2 | h2
      · exact .inr h2
      · omega
  refine cond_d (fun hge => ?_) (fun hlt => ?_)
  · have hm128 : 128 ≤ m := by omega
    have hv : orV .u8 (IntKind.wrap .u8 (m : Int)) 128 = ((UInt8.ofNat (m % 128 + 128)).toNat : Int) := by
      rw [u8_mod, show (128 : Int) = ((128 : Nat) : Int) from rfl, orV_nat rfl (by simp [IntKind.bits]; omega) (by simp [IntKind.bits]), or_128 _ (by omega)]
      simp only [UInt8.toNat_ofNat']
      omega
    refine wr_push hw1 _ _ hv hlen fun g2 w2 hw2 k2 hi2 => ?_
    refine ⟨by decide, ?_⟩
    have hsh : shrV .u64 (m : Int) 7 = ((m / 128 : Nat) : Int) := by
      rw [show (7 : Int) = ((7 : Nat) : Int) from rfl, shrV_nat (by simp [IntKind.bits])]
    rw [hsh]
    refine ⟨⟨m / 128, g2, _, rfl, by omega, hw2, ?_, k1.trans k2 (fun k _ h => h) fp, fun k hk => ?_⟩, ?_⟩
    · rw [← he]
      conv => rhs; rw [vform]
      rw [if_neg (by omega)]
      simp
    · rcases hi2 k hk with hh | hh
      · exact hi1 k hh
      · have := k1.size; exact .inr (by omega)
    · simp only [Int.toNat_natCast]; omega
  · have hm128 : m < 128 := by omega
    have hv : IntKind.wrap .u8 (m : Int) = ((UInt8.ofNat m).toNat : Int) := by
      rw [u8_mod]
      simp only [UInt8.toNat_ofNat']
    refine wr_push hw1 _ _ hv hlen fun g2 w2 hw2 k2 hi2 => ?_
    refine h g2 w2 ?_ (k1.trans k2 (fun k _ h => h) fp) fun k hk => ?_
    · rw [← he]
      conv in vform m => rw [vform]
      rw [if_pos hm128]
      exact hw2
    · rcases hi2 k hk with hh | hh
      · exact hi1 k hh
      · have := k1.size; exact .inr (by omega)
def zig (i : Int) : Nat := if 0 ≤ i then (2 * i).toNat else (-2 * i - 1).toNat
theorem xor_ones {n x : Nat} (h : x < 2 ^ n) : x ^^^ (2 ^ n - 1) = 2 ^ n - 1 - x := by
  have h1 : (BitVec.ofNat n x ^^^ BitVec.allOnes n).toNat = x ^^^ (2 ^ n - 1) := by
    rw [BitVec.toNat_xor, BitVec.toNat_allOnes, BitVec.toNat_ofNat, Nat.mod_eq_of_lt h]
  rw [← h1, BitVec.xor_allOnes, BitVec.toNat_not, BitVec.toNat_ofNat, Nat.mod_eq_of_lt h]
theorem xor_ones64 {x : Nat} (h : x < 18446744073709551616) : x ^^^ 18446744073709551615 = 18446744073709551615 - x := xor_ones (n := 64) h
theorem zig_lt {i : Int} (h0 : -9223372036854775808 ≤ i) (h1 : i ≤ 9223372036854775807) : zig i < 18446744073709551616 := by
  unfold zig; split <;> omega
theorem zig_code {i : Int} (h0 : -9223372036854775808 ≤ i) (h1 : i ≤ 9223372036854775807) :
    xorV .u64 (shlV .u64 (IntKind.wrap .u64 i) 1) (IntKind.wrap .u64 (shrV .i64 i 63)) = (zig i : Int) := by
  have hs : shrV .i64 i 63 = if 0 ≤ i then 0 else -1 := by
    unfold shrV
    simp only [IntKind.bits]
    have : (2 : Int) ^ (min (63 : Int).toNat 64) = 9223372036854775808 := by decide
    rw [this]
    split
    · rw [Int.fdiv_eq_ediv_of_nonneg _ (by omega)]; omega
    · rw [Int.fdiv_eq_ediv_of_nonneg _ (by omega)]; omega
  rw [hs]
  by_cases hi : 0 ≤ i
  · rw [if_pos hi]
    obtain ⟨n, rfl⟩ := Int.eq_ofNat_of_zero_le hi
    rw [u64_mod, show (1 : Int) = ((1 : Nat) : Int) from rfl, shlV_nat rfl (by simp [IntKind.bits]), show (0 : Int) = ((0 : Nat) : Int) from rfl, u64_mod]
    rw [xorV_nat rfl (by simp only [IntKind.bits]; omega) (by simp [IntKind.bits])]
    simp only [Nat.zero_mod, Nat.xor_zero, zig, hi, if_true, IntKind.bits]
    omega
  · rw [if_neg hi]
    have hw : IntKind.wrap .u64 i = ((i + 18446744073709551616).toNat : Int) := by
      simp only [IntKind.wrap, IntKind.bits, IntKind.signed, Bool.false_and, Bool.false_eq_true, if_false]; omega
    have hw1 : IntKind.wrap .u64 (-1) = ((18446744073709551615 : Nat) : Int) := by decide
    rw [hw, hw1, show (1 : Int) = ((1 : Nat) : Int) from rfl, shlV_nat rfl (by simp [IntKind.bits])]
    rw [xorV_nat rfl (by simp only [IntKind.bits]; omega) (by simp [IntKind.bits])]
    simp only [IntKind.bits]
    rw [xor_ones64 (by omega)]
    simp only [zig, hi, if_false]
    omega
def unzig (n : Nat) : Int := if n % 2 = 0 then ((n / 2 : Nat) : Int) else -((n / 2 : Nat) : Int) - 1
theorem unzig_code {n : Nat} (h : n < 18446744073709551616) :
    xorV .i64 (IntKind.wrap .i64 (shrV .u64 (n : Int) 1)) (IntKind.wrap .i64 (0 - (IntKind.wrap .i64 (andV .u64 (n : Int) 1)))) = unzig n := by
  rw [show (1 : Int) = ((1 : Nat) : Int) from rfl, shrV_nat (by simp [IntKind.bits]), andV_nat rfl (by simpa [IntKind.bits] using h) (by simp [IntKind.bits]), and_1]
  rw [wrap_i64 (x := ((n / 2 ^ 1 : Nat) : Int)) (by omega) (by omega), wrap_i64 (x := ((n % 2 : Nat) : Int)) (by omega) (by omega)]
  unfold unzig xorV
  have hb : (2 ^ 1 : Nat) = 2 := rfl
  rw [hb]
  split
  · rename_i he
    have w0 : IntKind.wrap .i64 ((0 : Int) - ((0 : Nat) : Int)) = 0 := by decide
    rw [he, w0]
    show IntKind.wrap .i64 ((BitVec.ofInt 64 ((n / 2 : Nat) : Int) ^^^ BitVec.ofInt 64 0 : BitVec 64).toNat : Int) = _
    have : BitVec.ofInt 64 0 = 0#64 := by decide
    rw [this, BitVec.xor_zero, ofInt_nat, BitVec.toNat_ofNat, Nat.mod_eq_of_lt (by omega)]
    exact wrap_i64 (by omega) (by omega)
  · rename_i he
    have he1 : n % 2 = 1 := by omega
    have w1 : IntKind.wrap .i64 ((0 : Int) - ((1 : Nat) : Int)) = -1 := by decide
    rw [he1, w1]
    show IntKind.wrap .i64 ((BitVec.ofInt 64 ((n / 2 : Nat) : Int) ^^^ BitVec.ofInt 64 (-1) : BitVec 64).toNat : Int) = _
    have : BitVec.ofInt 64 (-1) = BitVec.allOnes 64 := by decide
    rw [this, BitVec.xor_allOnes, ofInt_nat, BitVec.toNat_not, BitVec.toNat_ofNat, Nat.mod_eq_of_lt (by omega)]
    simp only [IntKind.wrap, IntKind.bits, IntKind.signed, Bool.true_and]
    split
    · omega
    · rename_i hh; have := of_decide_eq_false (Bool.eq_false_iff.2 hh); omega
theorem unzig_zig (i : Int) : unzig (zig i) = i := by
  unfold unzig zig
  split <;> split <;> omega
theorem writer_S {w : World} {B : Nat} {g : Option Addr} {bs : List UInt8} {i : Int} {R : Po} (hw : Wr w B g bs) (h0 : -9223372036854775808 ≤ i) (h1 : i ≤ 9223372036854775807) (hb : bs.length + 20 < 140737488355329)
    (h : ∀ g' w', Wr w' B g' (bs ++ vform (zig i)) → Kp (fpW B g) w w' → (∀ k, Is g' k → Is g k ∨ w.heap.size ≤ k) → R (.returned (.tuple #[])) w') :
    GoC Tryz.prog F_field_Writer_S #[.pointer (some ⟨B, 0, none⟩), .int .i64 i] w R := by
  refine S_field_Writer_S ?_
  unfold W_field_Writer_S
  refine ⟨by decide, by decide, ?_⟩
  rw [zig_code h0 h1]
  exact writer_U hw (zig_lt h0 h1) hb fun g' w' a b c => ⟨rfl, h g' w' a b c⟩
theorem Wr.len {w : World} {B : Nat} {g : Option Addr} {bs : List UInt8} (h : Wr w B g bs) : ∃ l c, Blk w B #[.slice g l c] T_field_Writer ∧ Sl w T_uint8 1 g l c (bvs bs) ∧ bs.length = l := by
  obtain ⟨⟨l, c, h1, h2⟩, _⟩ := h
  exact ⟨l, c, h1, h2, by rw [← bvs_len]; exact h2.len⟩
theorem writer_Out {w : World} {B : Nat} {g : Option Addr} {bs : List UInt8} {R : Po} (hw : Wr w B g bs) (hb : bs.length < 140737488355329)
    (h : ∀ a c w', Sl w' T_uint8 1 a bs.length c (bvs bs) → Kp no w w' → Fresh w a → R (.returned (.slice a bs.length c)) w') :
    GoC Tryz.prog F_field_Writer_Out #[.pointer (some ⟨B, 0, none⟩)] w R := by
  refine S_field_Writer_Out ?_
  unfold W_field_Writer_Out
  obtain ⟨l, c, h1, h2, rfl⟩ := hw.len
  refine ⟨g, _, c, by rw [h1.cell]; rfl, ?_⟩
  refine fclone_c h2.rd rfl (fun hn => ?_) (by omega) fun a' c' w' hs hk hf => ⟨a', _, c', rfl, h a' c' w' hs hk hf⟩
  subst hn
  rcases h2.2.2 with ⟨_, h0⟩ | ⟨_, _, h0, _⟩
  · have := h2.2.1; omega
  · cases h0
/-! ### The reader -/
structure Re (w : World) (B : Nat) (g : Option Addr) (bs : List UInt8) (at_ e : Nat) : Prop where
  ex : ∃ c, Blk w B #[.slice g bs.length c, .int .i64 (at_ : Int), .int .i64 (e : Int)] T_field_Reader ∧ Sl w T_uint8 1 g bs.length c (bvs bs)
  ap : ¬ Is g B
  le : at_ ≤ bs.length
theorem Re.kp {S : Nat → Prop} {w w' : World} {B : Nat} {g : Option Addr} {bs : List UInt8} {a e : Nat} (h : Re w B g bs a e) (k : Kp S w w') (hn : ∀ b, fpW B g b → ¬ S b) : Re w' B g bs a e := by
  obtain ⟨⟨c, h1, h2⟩, h3, h4⟩ := h
  exact ⟨⟨c, k.blk h1 (hn _ (.inl rfl)), h2.kp k fun b hb => hn b (.inr hb)⟩, h3, h4⟩
theorem Re.kp0 {w w' : World} {B : Nat} {g : Option Addr} {bs : List UInt8} {a e : Nat} (h : Re w B g bs a e) (k : Kp no w w') : Re w' B g bs a e := h.kp k fun _ _ h => h.elim
theorem Re.lt {w : World} {B : Nat} {g : Option Addr} {bs : List UInt8} {a e : Nat} (h : Re w B g bs a e) : ∀ k, fpW B g k → k < w.heap.size := by
  obtain ⟨⟨c, h1, h2⟩, h3, _⟩ := h
  rintro k (rfl | hk)
  · exact h1.lt
  · exact h2.lt k hk
theorem newReader_c {a : Option Addr} {l c : Nat} {bs : List UInt8} {w : World} {R : Po} (hr : Rd w a (bvs bs)) (hl : bs.length = l) (h0 : a = none → l = 0) (hb : l ≤ 140737488355328)
    (h : ∀ B g w', Re w' B g bs 0 0 → Kp no w w' → w.heap.size ≤ B → Fresh w g → R (.returned (.pointer (some ⟨B, 0, none⟩))) w') : GoC Tryz.prog F_field_NewReader #[.slice a l c] w R := by
  subst hl
  refine S_field_NewReader ?_
  unfold W_field_NewReader
  refine fclone_c hr rfl h0 hb fun a' c' w1 hs k1 hf => ⟨a', _, c', rfl, ?_⟩
  refine AlF.intro fun B w2 hB hblk k2 _ => h B a' w2 ⟨⟨c', hblk, hs.kp0 k2⟩, fun hh => ?_, Nat.zero_le _⟩ (k1.trans0 k2) (by have := k1.size; omega) hf
  have := hs.lt B hh
  omega
def hiRun : List UInt8 → Nat
  | [] => 0
  | c :: r => if 128 ≤ c.toNat then hiRun r + 1 else 0
theorem hiRun_le : ∀ l : List UInt8, hiRun l ≤ l.length
  | [] => Nat.le_refl _
  | c :: r => by
    unfold hiRun
    split
    · have := hiRun_le r; simp; omega
    · simp
def gval : List UInt8 → Nat
  | [] => 0
  | c :: r => c.toNat % 128 + 128 * gval r
def parse (l : List UInt8) : Nat × Nat × Nat :=
  if 10 ≤ hiRun l then (0, 0, 22)
  else if hiRun l = l.length then (0, 0, 20)
  else if (0 < hiRun l ∧ (l.getD (hiRun l) 0).toNat = 0) ∨ (hiRun l = 9 ∧ 1 < (l.getD (hiRun l) 0).toNat) then (0, 0, 22)
  else (gval (l.take (hiRun l + 1)), hiRun l + 1, 0)
theorem hi_step : ∀ (l : List UInt8) (k : Nat), k ≤ hiRun l → (h : k < l.length) → (128 ≤ (l[k]).toNat → k + 1 ≤ hiRun l) ∧ ((l[k]).toNat < 128 → hiRun l = k)
  | c :: r, 0, _, _ => by
    simp only [hiRun, List.getElem_cons_zero]
    constructor
    · intro h; rw [if_pos h]; omega
    · intro h; rw [if_neg (by omega)]
  | c :: r, k + 1, hk, h => by
    have hc : 128 ≤ c.toNat := by
      apply Classical.byContradiction
      intro hn
      simp only [hiRun, if_neg hn] at hk
      omega
    simp only [hiRun, if_pos hc] at hk ⊢
    have := hi_step r k (by omega) (by simpa using h)
    simp only [List.getElem_cons_succ]
    exact ⟨fun h => by have := this.1 h; omega, fun h => by rw [this.2 h]⟩
  | [], k, _, h => by simp at h
theorem gval_lt : ∀ l : List UInt8, gval l < 128 ^ l.length
  | [] => by simp [gval]
  | c :: r => by
    have := gval_lt r
    simp only [gval, List.length_cons, Nat.pow_succ]
    omega
theorem gval_snoc : ∀ (l : List UInt8) (x : UInt8), gval (l ++ [x]) = gval l + (x.toNat % 128) * 128 ^ l.length
  | [], x => by simp [gval]
  | c :: r, x => by
    rw [List.cons_append, gval, gval_snoc r x, gval, List.length_cons, Nat.pow_succ, Nat.mul_add, ← Nat.mul_assoc, ← Nat.mul_assoc, Nat.add_assoc]
    congr 2
    rw [Nat.mul_comm 128, Nat.mul_assoc, Nat.mul_assoc, Nat.mul_comm 128]
theorem pow128 (k : Nat) : 128 ^ k = 2 ^ (7 * k) := by rw [Nat.pow_mul]
theorem group_or {a k : Nat} {x : UInt8} (ha : a < 128 ^ k) (hk : k ≤ 8 ∨ (k = 9 ∧ x.toNat ≤ 1)) :
    orV .u64 (a : Int) (shlV .u64 (IntKind.wrap .u64 (andV .u8 ((x.toNat : Nat) : Int) 127)) (((7 * k : Nat)) : Int)) = ((a + (x.toNat % 128) * 128 ^ k : Nat) : Int) := by
  have hx := u8_lt x
  rw [show (127 : Int) = ((127 : Nat) : Int) from rfl, andV_nat rfl (by simpa [IntKind.bits] using hx) (by simp [IntKind.bits]), and_127, wrap_nat rfl (by simp only [IntKind.bits]; omega)]
  rw [shlV_nat rfl (by simp only [IntKind.bits]; omega)]
  have hp : 128 ^ k = 2 ^ (7 * k) := pow128 k
  have hlt : x.toNat % 128 * 2 ^ (7 * k) < 2 ^ 64 := by
    rcases hk with hk | ⟨rfl, h1⟩
    · have h2 : 2 ^ (7 * k) ≤ 2 ^ 56 := Nat.pow_le_pow_right (by omega) (by omega)
      have h3 : x.toNat % 128 < 128 := Nat.mod_lt _ (by omega)
      calc x.toNat % 128 * 2 ^ (7 * k) ≤ 127 * 2 ^ 56 := Nat.mul_le_mul (by omega) h2
        _ < 2 ^ 64 := by decide
    · have h3 : x.toNat % 128 ≤ 1 := by omega
      calc x.toNat % 128 * 2 ^ (7 * 9) ≤ 1 * 2 ^ (7 * 9) := Nat.mul_le_mul_right _ h3
        _ < 2 ^ 64 := by decide
  simp only [IntKind.bits]
  rw [Nat.mod_eq_of_lt hlt]
  have ha64 : a < 2 ^ 64 := by
    refine Nat.lt_of_lt_of_le ha ?_
    rw [hp]
    exact Nat.pow_le_pow_right (by omega) (by omega)
  rw [orV_nat rfl ha64 hlt, or_shift (hp ▸ ha), hp]
theorem parse_form {l : List UInt8} (h : 10 ≤ hiRun l) : parse l = (0, 0, 22) := by unfold parse; rw [if_pos h]
theorem next_c {w : World} {B : Nat} {g : Option Addr} {bs : List UInt8} {at_ e : Nat} {R : Po} (hr : Re w B g bs at_ e) (hb : bs.length < 140737488355329)
    (h : ∀ w', Kp no w w' → R (.returned (.tuple #[.int .u64 ((parse (bs.drop at_)).1 : Int), .int .i64 ((parse (bs.drop at_)).2.1 : Int), .int .i64 ((parse (bs.drop at_)).2.2 : Int)])) w') :
    GoC Tryz.prog F_field_Reader_next #[.pointer (some ⟨B, 0, none⟩)] w R := by
  refine S_field_Reader_next ?_
  unfold W_field_Reader_next
  obtain ⟨⟨c, h1, h2⟩, h3, h4⟩ := hr
  have hcells : ∀ k, Blk (w.drewN k) B #[.slice g bs.length c, .int .i64 (at_ : Int), .int .i64 (e : Int)] T_field_Reader := fun k => h1
  refine ⟨g, bs.length, c, by rw [h1.cell]; rfl, ?_⟩
  refine ⟨(at_ : Int), by rw [add_at, h1.cell]; rfl, trivial, ⟨by omega, by simp only [hiOf]; omega⟩, fun k1 => ?_⟩
  rw [Int.toNat_natCast]
  have hrd : Rd (w.drewN k1) (subA g c at_ 1) (bvs (bs.drop at_)) := rd_drop (h2.kp0 (Kp.drew w k1)).rd h2.2.1
  have hlen : (bs.drop at_).length = bs.length - at_ := by simp
  generalize hrest : bs.drop at_ = rest at *
  refine loopN (fun s w1 => w1 = w.drewN k1 ∧ ∃ k : Nat, s.2.1 = (k : Int) ∧ k ≤ rest.length ∧ k ≤ 10 ∧ k ≤ hiRun rest ∧ (k ≤ 9 → s.1 = (gval (rest.take k) : Int))) (fun s _ => rest.length - s.2.1.toNat)
    ⟨rfl, 0, rfl, Nat.zero_le _, by omega, Nat.zero_le _, fun _ => by simp [gval]⟩ ?_
  rintro ⟨n, kk, u⟩ w1 ⟨rfl, k, hk, hkl, hk10, hhi, hn⟩ _
  dsimp only at hk hn ⊢
  subst hk
  refine cond_d (fun hlt => ?_) (fun hge => ?_)
  · have hkl' : k < rest.length := by omega
    refine hrd.idx (by omega) hlt (by rw [bvs_len]; omega) fun b o hg hc => ?_
    refine ⟨((rest[k]).toNat : Int), ?_, ?_⟩
    · rw [Int.toNat_natCast, add_at]
      exact hc k _ (bvs_get hkl')
    have hst := hi_step rest k hhi hkl'
    refine cond_eq (fun h10 => ?_) (fun h10 => ?_)
    · have : k = 10 := by omega
      have hp := parse_form (l := rest) (by omega)
      rw [hp] at h
      exact h _ (Kp.drew w k1)
    · have hk9 : k ≤ 9 := by omega
      have hw7 : IntKind.wrap .i64 (7 * (k : Int)) = ((7 * k : Nat) : Int) := by rw [wrap_i64 (by omega) (by omega)]; omega
      have hwk : IntKind.wrap .i64 ((k : Int) + 1) = ((k + 1 : Nat) : Int) := by rw [wrap_i64 (by omega) (by omega)]; omega
      have hgl : (rest.take k).length = k := by rw [List.length_take]; omega
      have hglt : gval (rest.take k) < 128 ^ k := by have := gval_lt (rest.take k); rwa [hgl] at this
      rw [hw7, hwk, hn hk9]
      refine ⟨by omega, cond_d (fun hc128 => ?_) (fun hc128 => ?_)⟩
      · refine ⟨⟨rfl, k + 1, rfl, by omega, by omega, hst.1 (by omega), fun hk8 => ?_⟩, by simp only [Int.toNat_natCast]; omega⟩
        rw [group_or hglt (.inl (by omega)), take_snoc_get rest k hkl', gval_snoc, hgl]
      · have hrun : hiRun rest = k := hst.2 (by omega)
        have hnl : ¬ (10 ≤ hiRun rest) := by omega
        have hnl2 : ¬ (hiRun rest = rest.length) := by omega
        have good : ¬ ((0 < k ∧ (rest[k]).toNat = 0) ∨ (k = 9 ∧ 1 < (rest[k]).toNat)) →
            R (.returned (.tuple #[.int .u64 (orV .u64 ((gval (rest.take k) : Nat) : Int) (shlV .u64 (IntKind.wrap .u64 (andV .u8 ((rest[k]).toNat : Int) 127)) ((7 * k : Nat) : Int))), .int .i64 ((k + 1 : Nat) : Int), .int .i64 0])) (w.drewN k1) := by
          intro hno
          have hp : parse rest = (gval (rest.take (k + 1)), k + 1, 0) := by
            unfold parse
            rw [if_neg hnl, if_neg hnl2, hrun, getD_get hkl', if_neg hno]
          rw [hp] at h
          rw [group_or hglt (by omega)]
          have := h _ (Kp.drew w k1)
          rw [take_snoc_get rest k hkl', gval_snoc, hgl] at this
          exact this
        have bad : ((0 < k ∧ (rest[k]).toNat = 0) ∨ (k = 9 ∧ 1 < (rest[k]).toNat)) → R (.returned (.tuple #[.int .u64 0, .int .i64 0, .int .i64 22])) (w.drewN k1) := by
          intro hyes
          have hp : parse rest = (0, 0, 22) := by
            unfold parse
            rw [if_neg hnl, if_neg hnl2, hrun, getD_get hkl', if_pos hyes]
          rw [hp] at h
          exact h _ (Kp.drew w k1)
        refine cond_d (fun h0 => cond_eq (fun hz => bad (.inl ⟨by omega, by omega⟩)) fun hz => ?_) (fun h0 => ?_)
        · exact cond_eq (fun h9 => cond_d (fun h1 => bad (.inr ⟨by omega, by omega⟩)) fun h1 => good (by omega)) fun h9 => good (by omega)
        · exact cond_eq (fun h9 => cond_d (fun h1 => bad (.inr ⟨by omega, by omega⟩)) fun h1 => good (by omega)) fun h9 => good (by omega)
  · have hkl' : k = rest.length := by omega
    refine ⟨g, bs.length, c, by rw [(hcells k1).cell]; rfl, ?_⟩
    refine ⟨(at_ : Int), by rw [add_at, (hcells k1).cell]; rfl, fun k2 => ?_⟩
    rw [wrap_i64 (by omega) (by omega)]
    have hhl := hiRun_le rest
    have kk : Kp no w ((w.drewN k1).drewN k2) := (Kp.drew w k1).trans0 (Kp.drew _ k2)
    refine cond_d (fun h10 => ?_) (fun h10 => ?_)
    · rw [parse_form (l := rest) (by omega)] at h
      exact h _ kk
    · have hp : parse rest = (0, 0, 20) := by
        unfold parse
        rw [if_neg (by omega), if_pos (by omega)]
      rw [hp] at h
      exact h _ kk
theorem parse_size (l : List UInt8) : (parse l).2.1 ≤ l.length := by
  unfold parse
  have := hiRun_le l
  split
  · simp
  · split
    · simp
    · split
      · simp
      · rename_i h1 h2 h3
        simp only
        omega
theorem parse_lt (l : List UInt8) : (parse l).1 < 18446744073709551616 := by
  unfold parse
  split
  · simp
  · split
    · simp
    · split
      · simp
      · rename_i h1 h2 h3
        simp only
        have hl := hiRun_le l
        have hk : hiRun l < l.length := by omega
        rw [take_snoc_get l _ hk, gval_snoc]
        have hlen : (l.take (hiRun l)).length = hiRun l := by rw [List.length_take]; omega
        have hg := gval_lt (l.take (hiRun l))
        rw [hlen] at hg ⊢
        rw [getD_get hk] at h3
        generalize (l[hiRun l]).toNat = c at *
        generalize gval (l.take (hiRun l)) = a at *
        generalize hiRun l = k at *
        have hp := pow128 k
        rcases Nat.lt_or_ge k 9 with h8 | h9
        · have h2 : 128 ^ k ≤ 2 ^ 56 := by rw [hp]; exact Nat.pow_le_pow_right (by omega) (by omega)
          have h4 : c % 128 * 128 ^ k ≤ 127 * 2 ^ 56 := Nat.mul_le_mul (by omega) h2
          omega
        · have h99 : k = 9 := by omega
          subst h99
          have h4 : c % 128 * 128 ^ 9 ≤ 1 * 128 ^ 9 := Nat.mul_le_mul_right _ (by omega)
          have h5 : (128 : Nat) ^ 9 = 9223372036854775808 := by decide
          omega
theorem parse_err (l : List UInt8) : (parse l).2.2 = 0 ∨ (parse l).2.2 = 20 ∨ (parse l).2.2 = 22 := by
  unfold parse
  split
  · simp
  · split
    · simp
    · split <;> simp
def rdU (bs : List UInt8) (st : Nat × Nat) (m : Nat) : Nat × (Nat × Nat) :=
  if st.2 = 0 then
    if (parse (bs.drop st.1)).2.2 = 0 then
      if m < (parse (bs.drop st.1)).1 then (0, (st.1, 23)) else ((parse (bs.drop st.1)).1, (st.1 + (parse (bs.drop st.1)).2.1, 0))
    else (0, (st.1, (parse (bs.drop st.1)).2.2))
  else (0, st)
theorem rdU_lt (bs : List UInt8) (st : Nat × Nat) (m : Nat) : (rdU bs st m).1 < 18446744073709551616 := by
  unfold rdU
  have := parse_lt (bs.drop st.1)
  split
  · split
    · split
      · simp
      · exact this
    · simp
  · simp
theorem Re.set {w : World} {B : Nat} {g : Option Addr} {bs : List UInt8} {a e : Nat} (h : Re w B g bs a e) {i : Nat} {v : Value} {a' e' : Nat} (hi : i = 1 ∨ i = 2)
    (hv : ∀ c, (#[.slice g bs.length c, .int .i64 (a : Int), .int .i64 (e : Int)] : Array Value).setIfInBounds i v = #[.slice g bs.length c, .int .i64 (a' : Int), .int .i64 (e' : Int)]) (ha : a' ≤ bs.length) {K : World → Prop}
    (hk : ∀ w', Re w' B g bs a' e' → Kp (fun k => k = B) w w' → K w') : StF w (Addr.add ⟨B, 0, none⟩ i) v K := by
  obtain ⟨⟨c, h1, h2⟩, h3, h4⟩ := h
  rw [add_at]
  refine StF.intro h1 (by rcases hi with rfl | rfl <;> simp) fun w' hb k1 _ => hk w' ⟨⟨c, ?_, h2.kp k1 fun b hib hbB => ?_⟩, h3, ha⟩ k1
  · rw [Nat.zero_add, hv c] at hb; exact hb
  · subst hbB; exact h3 hib
theorem Re.slice {w : World} {B : Nat} {g : Option Addr} {bs : List UInt8} {a e : Nat} (h : Re w B g bs a e) : ∃ c, w.cell? ⟨B, 0, none⟩ = some (.slice g bs.length c) := by
  obtain ⟨⟨c, h1, h2⟩, h3, h4⟩ := h
  exact ⟨c, by rw [h1.cell]; rfl⟩
theorem Re.cat {w : World} {B : Nat} {g : Option Addr} {bs : List UInt8} {a e : Nat} (h : Re w B g bs a e) : w.cell? (Addr.add ⟨B, 0, none⟩ 1) = some (.int .i64 (a : Int)) := by
  obtain ⟨⟨c, h1, h2⟩, h3, h4⟩ := h
  rw [add_at, h1.cell]; rfl
theorem Re.cerr {w : World} {B : Nat} {g : Option Addr} {bs : List UInt8} {a e : Nat} (h : Re w B g bs a e) : w.cell? (Addr.add ⟨B, 0, none⟩ 2) = some (.int .i64 (e : Int)) := by
  obtain ⟨⟨c, h1, h2⟩, h3, h4⟩ := h
  rw [add_at, h1.cell]; rfl
theorem reader_U {w : World} {B : Nat} {g : Option Addr} {bs : List UInt8} {st : Nat × Nat} {m : Nat} {R : Po} (hr : Re w B g bs st.1 st.2) (hb : bs.length < 140737488355329)
    (h : ∀ w', Re w' B g bs (rdU bs st m).2.1 (rdU bs st m).2.2 → Kp (fun k => k = B) w w' → R (.returned (.int .u64 ((rdU bs st m).1 : Int))) w') :
    GoC Tryz.prog F_field_Reader_U #[.pointer (some ⟨B, 0, none⟩), .int .u64 (m : Int)] w R := by
  obtain ⟨at_, e⟩ := st
  dsimp only at hr
  refine S_field_Reader_U ?_
  unfold W_field_Reader_U
  refine ⟨_, hr.cerr, cond_ne (fun he => ?_) (fun he => ?_)⟩
  · have hu : rdU bs (at_, e) m = (0, (at_, e)) := by unfold rdU; rw [if_neg]; simp only; omega
    rw [hu] at h
    exact h w hr (Kp.refl _ _)
  · have he0 : e = 0 := by omega
    subst he0
    refine next_c hr hb fun w1 k1 => ⟨_, _, _, rfl, ?_⟩
    have hr1 := hr.kp0 k1
    have hsz := parse_size (bs.drop at_)
    have hsz' : (parse (bs.drop at_)).2.1 ≤ bs.length - at_ := by simpa using hsz
    have hat := hr.le
    have hpe := parse_err (bs.drop at_)
    have hkp : ∀ w2, Kp (fun k => k = B) w1 w2 → Kp (fun k => k = B) w w2 := fun w2 k2 => k1.trans k2 (fun k _ h => h.elim) (fun k _ h => h)
    have hwrap : IntKind.wrap .i64 ((at_ : Int) + ((parse (bs.drop at_)).2.1 : Int)) = ((at_ + (parse (bs.drop at_)).2.1 : Nat) : Int) := by rw [wrap_i64 (by omega) (by omega)]; omega
    -- the three ends
    have ok : (parse (bs.drop at_)).2.2 = 0 → ¬ m < (parse (bs.drop at_)).1 → NilF (some ⟨B, 0, none⟩) fun d6 => ∃ n7 : Int, w1.cell? (Addr.add d6 1) = some (.int .i64 n7) ∧
        NilF (some ⟨B, 0, none⟩) fun d7 => StF w1 (Addr.add d7 1) (.int .i64 (IntKind.wrap .i64 (n7 + ((parse (bs.drop at_)).2.1 : Int)))) fun w5 => R (.returned (.int .u64 ((parse (bs.drop at_)).1 : Int))) w5 := by
      intro hp hm
      have hu : rdU bs (at_, 0) m = ((parse (bs.drop at_)).1, (at_ + (parse (bs.drop at_)).2.1, 0)) := by unfold rdU; rw [if_pos rfl, if_pos hp, if_neg hm]
      rw [hu] at h
      refine ⟨_, hr1.cat, hr1.set (.inl rfl) (fun c => by rw [hwrap]; rfl) (by dsimp only; omega) fun w2 hr2 k2 => h w2 hr2 (hkp _ k2)⟩
    have bad : ∀ (e' : Nat), rdU bs (at_, 0) m = (0, (at_, e')) → StF w1 (Addr.add ⟨B, 0, none⟩ 2) (.int .i64 (e' : Int)) fun w4 => R (.returned (.int .u64 0)) w4 := by
      intro e' hu
      rw [hu] at h
      exact hr1.set (.inr rfl) (fun c => rfl) hat fun w2 hr2 k2 => h w2 hr2 (hkp _ k2)
    refine cond_eq (fun hp => ?_) (fun hp => ?_)
    · have hp0 : (parse (bs.drop at_)).2.2 = 0 := by omega
      refine cond_d (fun hgt => ?_) (fun hle => ?_)
      · have hgt' : m < (parse (bs.drop at_)).1 := by omega
        have := bad 23 (by unfold rdU; rw [if_pos rfl, if_pos hp0, if_pos hgt'])
        exact cond_t (by decide) this
      · refine cond_ne (fun hh => absurd hp hh) (fun _ => ok hp0 (by omega))
    · have hp0 : (parse (bs.drop at_)).2.2 ≠ 0 := by omega
      refine cond_ne (fun _ => ?_) (fun hh => absurd hh hp)
      exact bad _ (by unfold rdU; rw [if_pos rfl, if_neg hp0])
theorem reader_S {w : World} {B : Nat} {g : Option Addr} {bs : List UInt8} {st : Nat × Nat} {R : Po} (hr : Re w B g bs st.1 st.2) (hb : bs.length < 140737488355329)
    (h : ∀ w', Re w' B g bs (rdU bs st 18446744073709551615).2.1 (rdU bs st 18446744073709551615).2.2 → Kp (fun k => k = B) w w' → R (.returned (.int .i64 (unzig (rdU bs st 18446744073709551615).1))) w') :
    GoC Tryz.prog F_field_Reader_S #[.pointer (some ⟨B, 0, none⟩)] w R := by
  refine S_field_Reader_S ?_
  unfold W_field_Reader_S
  refine reader_U (m := 18446744073709551615) hr hb fun w' hr' k' => ⟨_, rfl, by decide, ?_⟩
  rw [unzig_code (rdU_lt _ _ _)]
  exact h w' hr' k'
theorem reader_End {w : World} {B : Nat} {g : Option Addr} {bs : List UInt8} {st : Nat × Nat} {R : Po} (hr : Re w B g bs st.1 st.2)
    (h : ∀ w', Re w' B g bs st.1 (if st.2 = 0 ∧ st.1 < bs.length then 21 else st.2) → Kp (fun k => k = B) w w' → R (.returned (.tuple #[])) w') :
    GoC Tryz.prog F_field_Reader_End #[.pointer (some ⟨B, 0, none⟩)] w R := by
  obtain ⟨at_, e⟩ := st
  dsimp only at hr h
  refine S_field_Reader_End ?_
  unfold W_field_Reader_End
  refine ⟨_, hr.cerr, cond_eq (fun he => ?_) (fun he => fun k1 => ?_)⟩
  · obtain ⟨c, hs⟩ := hr.slice
    refine ⟨_, hr.cat, g, bs.length, c, hs, fun k1 => cond_d (fun hlt => ?_) (fun hge => ?_)⟩
    · have hr1 := hr.kp0 (Kp.drew w k1)
      rw [if_pos ⟨by omega, by omega⟩] at h
      exact hr1.set (.inr rfl) (fun c => rfl) hr.le fun w2 hr2 k2 => h w2 hr2 ((Kp.drew w k1).trans k2 (fun k _ h => h.elim) (fun k _ h => h))
    · rw [if_neg (by omega)] at h
      exact h _ (hr.kp0 (Kp.drew w k1)) (Kp.drew w k1).of_no
  · rw [if_neg (by omega)] at h
    exact h _ (hr.kp0 (Kp.drew w k1)) (Kp.drew w k1).of_no
theorem reader_Fault {w : World} {B : Nat} {g : Option Addr} {bs : List UInt8} {st : Nat × Nat} {R : Po} (hr : Re w B g bs st.1 st.2)
    (h : ∀ w', Kp no w w' → R (.returned (.tuple #[.int .i64 ((if st.2 = 0 then 0 else st.1 : Nat) : Int), .int .i64 (st.2 : Int)])) w') :
    GoC Tryz.prog F_field_Reader_Fault #[.pointer (some ⟨B, 0, none⟩)] w R := by
  obtain ⟨at_, e⟩ := st
  dsimp only at hr h
  refine S_field_Reader_Fault ?_
  unfold W_field_Reader_Fault
  refine ⟨_, hr.cerr, cond_eq (fun he => ?_) (fun he => ?_)⟩
  · have he0 : e = 0 := by omega
    subst he0
    exact h w (Kp.refl _ _)
  · refine ⟨_, hr.cat, _, hr.cerr, fun k1 => ?_⟩
    rw [if_neg (by omega)] at h
    exact h _ (Kp.drew w k1)
theorem vform_small {m : Nat} (h : m < 128) : vform m = [UInt8.ofNat m] := by rw [vform, if_pos h]
theorem vform_big {m : Nat} (h : ¬ m < 128) : vform m = UInt8.ofNat (m % 128 + 128) :: vform (m / 128) := by rw [vform, if_neg h]
theorem ofNat_toNat {x : Nat} (h : x < 256) : (UInt8.ofNat x).toNat = x := by simp only [UInt8.toNat_ofNat']; omega
theorem hiRun_vform (rest : List UInt8) : ∀ n m, m ≤ n → hiRun (vform m ++ rest) + 1 = (vform m).length := by
  intro n
  induction n with
  | zero =>
    intro m hm
    have : m = 0 := by omega
    subst this
    rw [vform_small (by omega)]
    simp [hiRun]
  | succ n ih =>
    intro m hm
    by_cases h : m < 128
    · rw [vform_small h]
      have hx : (UInt8.ofNat m).toNat = m := ofNat_toNat (by omega)
      simp only [List.singleton_append, hiRun, hx, List.length_singleton]
      rw [if_neg (by omega)]
    · rw [vform_big h]
      have hx : (UInt8.ofNat (m % 128 + 128)).toNat = m % 128 + 128 := ofNat_toNat (by omega)
      simp only [List.cons_append, hiRun, hx, List.length_cons]
      rw [if_pos (by omega), ih (m / 128) (by omega)]
theorem gval_vform : ∀ n m, m ≤ n → gval (vform m) = m := by
  intro n
  induction n with
  | zero =>
    intro m hm
    have : m = 0 := by omega
    subst this
    rw [vform_small (by omega)]
    simp [gval]
  | succ n ih =>
    intro m hm
    by_cases h : m < 128
    · rw [vform_small h]
      have hx : (UInt8.ofNat m).toNat = m := ofNat_toNat (by omega)
      simp only [gval, hx]
      omega
    · rw [vform_big h]
      have hx : (UInt8.ofNat (m % 128 + 128)).toNat = m % 128 + 128 := ofNat_toNat (by omega)
      simp only [gval, hx]
      rw [ih (m / 128) (by omega)]
      omega
theorem last_vform (rest : List UInt8) : ∀ n m, m ≤ n → ((vform m ++ rest).getD ((vform m).length - 1) 0).toNat = m / 128 ^ ((vform m).length - 1) ∧ (1 < (vform m).length → 128 ^ ((vform m).length - 1) ≤ m) := by
  intro n
  induction n with
  | zero =>
    intro m hm
    have : m = 0 := by omega
    subst this
    rw [vform_small (by omega)]
    simp
  | succ n ih =>
    intro m hm
    by_cases h : m < 128
    · rw [vform_small h]
      have hx : (UInt8.ofNat m).toNat = m := ofNat_toNat (by omega)
      simp only [List.singleton_append, List.length_singleton, Nat.sub_self, List.getD_cons_zero, hx, Nat.pow_zero, Nat.div_one]
      exact ⟨trivial, fun h => by omega⟩
    · rw [vform_big h]
      obtain ⟨h1, h2⟩ := ih (m / 128) (by omega)
      have hp := vform_pos (m / 128)
      obtain ⟨j, hj⟩ : ∃ j, (vform (m / 128)).length = j + 1 := ⟨(vform (m / 128)).length - 1, by omega⟩
      simp only [List.cons_append, List.length_cons, hj, Nat.add_sub_cancel] at h1 h2 ⊢
      rw [List.getD_cons_succ, h1, Nat.div_div_eq_div_mul, Nat.pow_succ, Nat.mul_comm 128]
      refine ⟨rfl, fun _ => ?_⟩
      rcases Nat.eq_zero_or_pos j with h0 | h0
      · subst h0; omega
      · have := h2 (by omega)
        omega
theorem parse_vform {m : Nat} (h : m < 18446744073709551616) (rest : List UInt8) : parse (vform m ++ rest) = (m, (vform m).length, 0) := by
  have h1 := hiRun_vform rest m m (Nat.le_refl _)
  obtain ⟨h2, h3⟩ := last_vform rest m m (Nat.le_refl _)
  have h4 := vform_len64 h
  have hk : hiRun (vform m ++ rest) = (vform m).length - 1 := by omega
  have hp := vform_pos m
  unfold parse
  rw [if_neg (by omega), if_neg (by rw [List.length_append]; omega), hk, h2]
  rw [if_neg, show (vform m).length - 1 + 1 = (vform m).length by omega, List.take_left, gval_vform m m (Nat.le_refl _)]
  rintro (⟨h5, h6⟩ | ⟨h5, h6⟩)
  · have h7 := h3 (by omega)
    have := Nat.div_pos h7 (Nat.pow_pos (by omega))
    omega
  · rw [h5] at h6
    have : (128 : Nat) ^ 9 = 9223372036854775808 := by decide
    rw [this] at h6
    omega
theorem hiRun_low : ∀ (l : List UInt8), hiRun l < l.length → (l.getD (hiRun l) 0).toNat < 128
  | [], h => by simp at h
  | c :: r, h => by
    by_cases hc : 128 ≤ c.toNat
    · have e : hiRun (c :: r) = hiRun r + 1 := by simp only [hiRun, if_pos hc]
      rw [e] at h ⊢
      rw [List.getD_cons_succ]
      exact hiRun_low r (by simpa using h)
    · have e : hiRun (c :: r) = 0 := by simp only [hiRun, if_neg hc]
      rw [e, List.getD_cons_zero]
      omega
theorem gval_pos {l : List UInt8} (h : hiRun l < l.length) (h0 : (l.getD (hiRun l) 0).toNat ≠ 0) : 0 < gval (l.take (hiRun l + 1)) := by
  have h1 := hiRun_low l h
  rw [getD_get h] at h1 h0
  rw [take_snoc_get l _ h, gval_snoc]
  have : 0 < (l[hiRun l]).toNat % 128 * 128 ^ (l.take (hiRun l)).length := Nat.mul_pos (by omega) (Nat.pow_pos (by omega))
  omega
theorem one_form : ∀ (l : List UInt8), hiRun l < l.length → (0 < hiRun l → (l.getD (hiRun l) 0).toNat ≠ 0) → vform (gval (l.take (hiRun l + 1))) = l.take (hiRun l + 1)
  | [], h, _ => by simp at h
  | c :: r, h, h0 => by
    by_cases hc : 128 ≤ c.toNat
    · have e : hiRun (c :: r) = hiRun r + 1 := by simp only [hiRun, if_pos hc]
      rw [e] at h h0 ⊢
      rw [List.getD_cons_succ] at h0
      have hr : hiRun r < r.length := by simpa using h
      have hg := gval_pos hr (h0 (by omega))
      have ih := one_form r hr fun _ => h0 (by omega)
      have hb := u8_lt c
      rw [List.take_succ_cons, gval]
      rw [vform_big (by omega), show (c.toNat % 128 + 128 * gval (r.take (hiRun r + 1))) / 128 = gval (r.take (hiRun r + 1)) by omega, ih]
      congr 1
      apply UInt8.toNat.inj
      rw [ofNat_toNat (by omega)]
      omega
    · have e : hiRun (c :: r) = 0 := by simp only [hiRun, if_neg hc]
      rw [e]
      simp only [Nat.zero_add, List.take_succ_cons, List.take_zero, gval, Nat.mul_zero, Nat.add_zero]
      rw [vform_small (by omega)]
      congr 1
      apply UInt8.toNat.inj
      rw [ofNat_toNat (by omega)]
      omega
theorem parse_one {l : List UInt8} (h : (parse l).2.2 = 0) : vform (parse l).1 = l.take (parse l).2.1 := by
  have hle := hiRun_le l
  unfold parse at h ⊢
  split at h
  · cases h
  · split at h
    · cases h
    · split at h
      · cases h
      · rename_i h1 h2 h3
        rw [if_neg h1, if_neg h2, if_neg h3]
        simp only
        exact one_form l (by omega) fun hp hz => h3 (.inl ⟨hp, hz⟩)

def RV.gi (r : RV) : Nat → Int
  | 0 => r.lsn | 1 => r.kind | 2 => r.tx | 3 => r.prev | 4 => r.wp | 5 => r.wi | 6 => r.sp | 7 => r.si | 8 => r.delta | 9 => r.id | 10 => r.grp | 11 => r.lo | 12 => r.hi | 13 => r.val | 16 => r.next | _ => 0
def RV.put (r : RV) (v : Int) : Nat → RV
  | 0 => { r with lsn := v } | 1 => { r with kind := v } | 2 => { r with tx := v } | 3 => { r with prev := v } | 4 => { r with wp := v } | 5 => { r with wi := v } | 6 => { r with sp := v } | 7 => { r with si := v }
  | 8 => { r with delta := v } | 9 => { r with id := v } | 10 => { r with grp := v } | 11 => { r with lo := v } | 12 => { r with hi := v } | 13 => { r with val := v } | 16 => { r with next := v } | _ => r
def plc : List Nat := [2, 3, 4, 5, 6, 7, 8, 9, 10, 11, 12, 13, 16]
theorem iof_plc (k : Int) : ∀ o ∈ iof k, o ∈ plc := by
  intro o ho
  unfold iof at ho
  split at ho
  · revert o; decide
  · split at ho
    · revert o; decide
    · split at ho
      · revert o; decide
      · split at ho <;> (revert o; decide)
theorem sof_plc (k : Int) : ∀ o ∈ sof k, o ∈ plc := by
  intro o ho
  unfold sof at ho
  split at ho
  · revert o; decide
  · split at ho <;> (revert o; decide)
theorem gi_cell (r : RV) (m : Mm) {o : Nat} (ho : o ∈ plc) : (r.ca m)[o]? = some (.int .i64 (r.gi o)) := by
  simp only [plc, List.mem_cons, List.mem_nil_iff, or_false] at ho
  rcases ho with rfl | rfl | rfl | rfl | rfl | rfl | rfl | rfl | rfl | rfl | rfl | rfl | rfl <;> rfl
theorem put_cell (r : RV) (m : Mm) (v : Int) {o : Nat} (ho : o ∈ plc) : (r.ca m).setIfInBounds o (.int .i64 v) = (r.put v o).ca m := by
  simp only [plc, List.mem_cons, List.mem_nil_iff, or_false] at ho
  rcases ho with rfl | rfl | rfl | rfl | rfl | rfl | rfl | rfl | rfl | rfl | rfl | rfl | rfl <;> rfl
theorem plc_lt {o : Nat} (ho : o ∈ plc) : o < 17 := by revert o; decide
theorem iof_len (k : Int) : (iof k).length ≤ 7 := by
  unfold iof
  repeat' (split <;> try decide)
theorem sof_len (k : Int) : (sof k).length ≤ 3 := by
  unfold sof
  repeat' (split <;> try decide)
def lvB (x : LV) : List UInt8 := vform x.tx.toNat ++ (vform x.last.toNat ++ vform (stN x))
def dvB (x : DV) : List UInt8 := vform x.page.toNat ++ vform x.since.toNat
def intB (r : RV) (o : Nat) : List UInt8 := vform (r.gi o).toNat
def sgnB (r : RV) (o : Nat) : List UInt8 := vform (zig (r.gi o))
def tailB (r : RV) : List UInt8 := if r.kind = 8 then vform r.live.length ++ (r.live.flatMap lvB ++ (vform r.dirty.length ++ r.dirty.flatMap dvB)) else []
def encB (r : RV) : List UInt8 := vform r.kind.toNat ++ ((iof r.kind).flatMap (intB r) ++ ((sof r.kind).flatMap (sgnB r) ++ tailB r))
def RV.w64 (r : RV) : Prop := i64 r.delta ∧ i64 r.lo ∧ i64 r.hi ∧ i64 r.val
theorem inB_iff {n lo hi : Int} : inB n lo hi = true ↔ lo ≤ n ∧ n ≤ hi := by unfold inB; simp
theorem li_ok {next lsn : Int} (hn : next ≤ 2147483648) : ∀ {last : Int} {L : List LV}, liB next lsn last L = true → 0 ≤ last → ∀ x ∈ L, 0 ≤ x.tx ∧ x.tx < 2147483648 ∧ 0 ≤ x.last ∧ x.last < 2147483648 := by
  intro last L
  induction L generalizing last with
  | nil => intro _ _ x hx; cases hx
  | cons y r ih =>
    intro h h0 x hx
    simp only [liB, Bool.and_eq_true, decide_eq_true_eq, inB_iff] at h
    obtain ⟨⟨⟨⟨⟨h1, h2⟩, h3⟩, h4⟩, h5⟩, h6⟩ := h
    rcases List.mem_cons.1 hx with rfl | hx
    · omega
    · exact ih h6 (by omega) x hx
theorem di_ok {lsn : Int} : ∀ {page : Int} {D : List DV}, diB lsn page D = true → -1 ≤ page → ∀ x ∈ D, 0 ≤ x.page ∧ x.page < 64 ∧ 0 ≤ x.since ∧ x.since < 2147483648 := by
  intro page D
  induction D generalizing page with
  | nil => intro _ _ x hx; cases hx
  | cons y r ih =>
    intro h h0 x hx
    simp only [diB, Bool.and_eq_true, decide_eq_true_eq, inB_iff] at h
    obtain ⟨⟨⟨⟨h1, h2⟩, h3⟩, h4⟩, h6⟩ := h
    rcases List.mem_cons.1 hx with rfl | hx
    · omega
    · exact ih h6 (by omega) x hx
theorem chk_kind {r : RV} (h : chkN r = 0) : 1 ≤ r.kind ∧ r.kind ≤ 8 ∧ okB r = true := by
  unfold chkN at h
  split at h
  · cases h
  · rename_i hk
    split at h
    · rename_i ho
      exact ⟨by omega, by omega, ho⟩
    · cases h
theorem ok_ints {r : RV} (h : chkN r = 0) : ∀ o ∈ iof r.kind, 0 ≤ r.gi o ∧ r.gi o ≤ 2147483648 ∧ (r.kind ≠ 8 → r.gi o < 2147483648) := by
  obtain ⟨h1, h8, hk⟩ := chk_kind h
  unfold okB at hk
  simp only [Bool.and_eq_true] at hk
  obtain ⟨_, hk⟩ := hk
  intro o ho
  unfold iof at ho
  split at ho
  · rename_i e2
    rw [if_pos e2] at hk
    simp only [Bool.and_eq_true, slB, inB_iff, decide_eq_true_eq] at hk
    simp only [List.mem_cons, List.mem_nil_iff, or_false] at ho
    rcases ho with rfl | rfl | rfl | rfl | rfl | rfl <;> simp only [RV.gi] <;> omega
  · rename_i n2
    rw [if_neg n2] at hk
    split at ho
    · rename_i e8
      rw [if_pos e8] at hk
      simp only [Bool.and_eq_true, cpB, inB_iff, decide_eq_true_eq] at hk
      simp only [List.mem_cons, List.mem_nil_iff, or_false] at ho
      subst ho
      simp only [RV.gi]
      omega
    · rename_i n8
      rw [if_neg n8] at hk
      split at ho
      · rename_i e34
        rw [if_pos e34] at hk
        simp only [Bool.and_eq_true, slB, inB_iff, decide_eq_true_eq] at hk
        simp only [List.mem_cons, List.mem_nil_iff, or_false] at ho
        rcases ho with rfl | rfl | rfl | rfl | rfl | rfl | rfl <;> simp only [RV.gi] <;> omega
      · rename_i n34
        rw [if_neg n34] at hk
        split at ho
        · rename_i e567
          rw [if_pos e567] at hk
          simp only [Bool.and_eq_true, inB_iff, decide_eq_true_eq] at hk
          simp only [List.mem_cons, List.mem_nil_iff, or_false] at ho
          rcases ho with rfl | rfl <;> simp only [RV.gi] <;> omega
        · rename_i n567
          rw [if_neg n567] at hk
          simp only [Bool.and_eq_true, inB_iff, decide_eq_true_eq] at hk
          simp only [List.mem_cons, List.mem_nil_iff, or_false] at ho
          subst ho
          simp only [RV.gi]
          omega
theorem ok_lists {r : RV} (h : chkN r = 0) (h8 : r.kind = 8) : r.live.length ≤ 32 ∧ r.dirty.length ≤ 16 ∧ (∀ x ∈ r.live, 0 ≤ x.tx ∧ x.tx < 2147483648 ∧ 0 ≤ x.last ∧ x.last < 2147483648) ∧ (∀ x ∈ r.dirty, 0 ≤ x.page ∧ x.page < 64 ∧ 0 ≤ x.since ∧ x.since < 2147483648) := by
  obtain ⟨_, _, hk⟩ := chk_kind h
  unfold okB at hk
  rw [if_neg (by omega), if_pos h8] at hk
  simp only [Bool.and_eq_true, cpB, inB_iff, decide_eq_true_eq] at hk
  obtain ⟨_, ⟨⟨⟨⟨hn, hl⟩, hd⟩, hL⟩, hD⟩, _⟩ := hk
  exact ⟨hl, hd, li_ok hn.2 hL (by omega), di_ok hD (by omega)⟩
theorem sgn_64 {r : RV} (h : r.w64) : ∀ o ∈ sof r.kind, i64 (r.gi o) := by
  intro o ho
  obtain ⟨h1, h2, h3, h4⟩ := h
  unfold sof at ho
  split at ho
  · simp only [List.mem_cons, List.mem_nil_iff, or_false] at ho
    rcases ho with rfl | rfl | rfl <;> assumption
  · split at ho
    · simp only [List.mem_cons, List.mem_nil_iff, or_false] at ho
      subst ho
      assumption
    · cases ho
structure WrS (w0 : World) (B : Nat) (g0 : Option Addr) (w : World) (g : Option Addr) (bs : List UInt8) : Prop where
  wr : Wr w B g bs
  kp : Kp (fpW B g0) w0 w
  nw : ∀ k, Is g k → Is g0 k ∨ w0.heap.size ≤ k
theorem WrS.init {w : World} {B : Nat} {g : Option Addr} {bs : List UInt8} (h : Wr w B g bs) : WrS w B g w g bs := ⟨h, Kp.refl _ _, fun k hk => .inl hk⟩
theorem WrS.step {w0 w w' : World} {B : Nat} {g0 g g' : Option Addr} {bs bs' : List UInt8} (h : WrS w0 B g0 w g bs) (hw : Wr w' B g' bs') (k : Kp (fpW B g) w w') (hn : ∀ k, Is g' k → Is g k ∨ w.heap.size ≤ k) : WrS w0 B g0 w' g' bs' := by
  have s0 := h.kp.size
  refine ⟨hw, h.kp.trans k (fun j hj hh => hh) fun j hj hh => ?_, fun j hj => ?_⟩
  · rcases hh with hh | hh
    · exact .inl hh
    · rcases h.nw j hh with h2 | h2
      · exact .inr h2
      · omega
  · rcases hn j hj with hh | hh
    · exact h.nw j hh
    · exact .inr (by omega)
theorem WrS.kp0 {w0 w w' : World} {B : Nat} {g0 g : Option Addr} {bs : List UInt8} (h : WrS w0 B g0 w g bs) (k : Kp no w w') : WrS w0 B g0 w' g bs := h.step (h.wr.kp0 k) k.of_no fun j hj => .inl hj
theorem WrS.U {w0 w : World} {B : Nat} {g0 g : Option Addr} {bs : List UInt8} {n : Nat} {v : Int} {R : Po} (h : WrS w0 B g0 w g bs) (hv : v = (n : Int)) (hn : n < 18446744073709551616) (hb : bs.length ≤ 100000)
    (hk : ∀ g' w', WrS w0 B g0 w' g' (bs ++ vform n) → R (.returned (.tuple #[])) w') : GoC Tryz.prog F_field_Writer_U #[.pointer (some ⟨B, 0, none⟩), .int .u64 v] w R := by
  subst hv
  exact writer_U h.wr hn (by omega) fun g' w' hw kk hi => hk g' w' (h.step hw kk hi)
theorem WrS.S {w0 w : World} {B : Nat} {g0 g : Option Addr} {bs : List UInt8} {i : Int} {R : Po} (h : WrS w0 B g0 w g bs) (hi : i64 i) (hb : bs.length ≤ 100000)
    (hk : ∀ g' w', WrS w0 B g0 w' g' (bs ++ vform (zig i)) → R (.returned (.tuple #[])) w') : GoC Tryz.prog F_field_Writer_S #[.pointer (some ⟨B, 0, none⟩), .int .i64 i] w R :=
  writer_S h.wr hi.1 hi.2 (by omega) fun g' w' hw kk hi => hk g' w' (h.step hw kk hi)
theorem WrS.old {w1 w0 w : World} {B : Nat} {g0 g : Option Addr} {bs : List UInt8} (h : WrS w0 B g0 w g bs) (k : Kp no w1 w0) (hB : w1.heap.size ≤ B) (hg : Fresh w1 g0) : Kp no w1 w :=
  k.trans h.kp (fun _ _ h => h) fun j hj hh => by
    rcases hh with hh | hh
    · omega
    · have := hg j hh; omega
theorem flat_len {α : Type} {f : α → List UInt8} {n : Nat} : ∀ {L : List α}, (∀ x ∈ L, (f x).length ≤ n) → (L.flatMap f).length ≤ L.length * n
  | [], _ => by simp
  | x :: r, h => by
    have h1 := h x (List.mem_cons_self ..)
    have h2 := flat_len (L := r) fun y hy => h y (List.mem_cons_of_mem _ hy)
    rw [List.flatMap_cons, List.length_append, List.length_cons, Nat.add_mul, Nat.one_mul]
    omega
theorem flat_snoc {α : Type} {f : α → List UInt8} {L : List α} {k : Nat} (h : k < L.length) : (L.take (k + 1)).flatMap f = (L.take k).flatMap f ++ f L[k] := by
  rw [take_snoc_get L k h, List.flatMap_append, List.flatMap_cons, List.flatMap_nil, List.append_nil]
theorem vlen31 {n : Nat} (h : n ≤ 2147483648) : (vform n).length ≤ 10 := vform_len64 (by omega)
theorem u64_toNat {x : Int} (h0 : 0 ≤ x) (h1 : x ≤ 2147483648) : IntKind.wrap .u64 x = (x.toNat : Int) := by rw [wrap_u64 h0 (by omega)]; omega
theorem wk1 {k n : Nat} (h : k < n) (hn : n ≤ 100000) : IntKind.wrap .i64 ((k : Int) + 1) = ((k + 1 : Nat) : Int) := by rw [wrap_i64 (by omega) (by omega)]; omega
theorem encode_c {w : World} {r : RV} {m : Mm} {R : Po} (hi : LiIn w m r.live r.dirty) (h64 : r.w64)
    (hbad : chkN r ≠ 0 → ∀ w', Kp no w w' → R (.returned (.tuple #[.slice none 0 0, .int .i64 (chkN r : Int)])) w')
    (hok : chkN r = 0 → ∀ a c w', Kp no w w' → Sl w' T_uint8 1 a (encB r).length c (bvs (encB r)) → Fresh w a → R (.returned (.tuple #[.slice a (encB r).length c, .int .i64 0])) w') : GoC Tryz.prog F_record_Encode #[.agg (r.ca m)] w R := by
  refine S_record_Encode ?_
  unfold W_record_Encode
  refine Loc.al (Kp.refl _ w) fun b1 w1 h1 k1 g1 => ?_
  have h1 : Loc w w1 b1 (r.ca m) T_api_Record := h1
  refine rec_rd h1.blk (check_c (r := r) (m := m) (hi.kp0 h1.kp) fun w2 k2 => ⟨_, rfl, cond_ne (fun hc => ?_) (fun hc => ?_)⟩)
  · exact hbad (by omega) w2 (h1.kp.trans0 k2)
  have hc0 : chkN r = 0 := by omega
  obtain ⟨hk1, hk8, _⟩ := chk_kind hc0
  have hints := ok_ints hc0
  have hsg := sgn_64 h64
  refine newWriter_c fun B w3 hw3 k3 hB => ⟨_, rfl, ?_⟩
  have k13 : Kp no w1 w3 := k2.trans0 k3
  refine ⟨_, (h1.kp' k13).at rfl rfl, ?_⟩
  have hB1 : w1.heap.size ≤ B := by have := k2.size; omega
  have hW3 := WrS.init hw3
  refine hW3.U (u64_toNat (by omega) (by omega)) (by omega) (by simp) fun g4 w4 hW4 => ⟨rfl, ?_⟩
  have k14 : Kp no w1 w4 := hW4.old k13 hB1 fun k hk => (is_none hk).elim
  have hf4 : Fresh w1 g4 := fun k hk => by
    rcases hW4.nw k hk with hh | hh
    · exact (is_none hh).elim
    · have := k13.size; omega
  rw [List.nil_append] at hW4
  have l4 := vlen31 (n := r.kind.toNat) (by omega)
  refine fields_c (r := r) (m := m) (h1.kp' k14).blk hk1 hk8 fun a5 c5 a6 c6 w5 k5 hr5 hr6 hf5 hf6 => ⟨_, _, _, _, _, _, rfl, ?_⟩
  have k15 : Kp no w1 w5 := k14.trans0 k5
  have hW5 : WrS w5 B g4 w5 g4 (vform r.kind.toNat) := WrS.init (hW4.wr.kp0 k5)
  have hlt4 := hW4.wr.lt
  have ap : ∀ a, Fresh w4 a → ∀ b, Is a b → ¬ fpW B g4 b := fun a hf b hb hh => by
    have := hf b hb
    have := hlt4 b hh
    omega
  have il := iof_len r.kind
  have sl := sof_len r.kind
  refine loopN (fun s w6 => ∃ k : Nat, k ≤ (iof r.kind).length ∧ s.1 = (k : Int) ∧ ∃ g, WrS w5 B g4 w6 g (vform r.kind.toNat ++ ((iof r.kind).take k).flatMap (intB r))) (fun s _ => (iof r.kind).length - s.1.toNat) ⟨0, Nat.zero_le _, rfl, g4, by simpa using hW5⟩ ?_
  rintro ⟨k0, u⟩ w6 ⟨k, hk, hk0, g, hW⟩ _
  dsimp only at hk0 ⊢
  subst hk0
  refine cond_d (fun hlt => ?_) (fun hge => ?_)
  · have hkl : k < (iof r.kind).length := by omega
    have hmem := List.getElem_mem hkl
    refine (hr5.kp hW.kp (ap a5 hf5)).idx (by omega) hlt (by simp) fun b o ha hcl => ?_
    refine ⟨some ⟨b1, (iof r.kind)[k], none⟩, by rw [Int.toNat_natCast, add_at]; exact hcl k _ (by simp [hkl, pv]), NilF.intro rfl ?_⟩
    refine ⟨_, (h1.kp' (hW.old k15 hB1 hf4)).at rfl (gi_cell r m (iof_plc _ _ hmem)), ?_⟩
    obtain ⟨hi0, hi1, _⟩ := hints _ hmem
    refine hW.U (u64_toNat hi0 hi1) (by omega) ?_ fun g' w' hW' => ⟨rfl, ?_⟩
    · have := flat_len (f := intB r) (n := 10) (L := (iof r.kind).take k) fun x hx => vlen31 (by have := hints x (List.mem_of_mem_take hx); omega)
      rw [List.length_append]
      rw [List.length_take] at this
      omega
    · rw [wk1 hkl (by omega)]
      refine ⟨⟨k + 1, by omega, rfl, g', ?_⟩, by simp only [Int.toNat_natCast]; omega⟩
      rw [flat_snoc hkl, ← List.append_assoc]
      exact hW'
  have hke : k = (iof r.kind).length := by omega
  subst hke
  rw [List.take_length] at hW
  have l6 := flat_len (f := intB r) (n := 10) (L := iof r.kind) fun x hx => vlen31 (by have := hints x hx; omega)
  refine loopN (fun s w8 => ∃ k : Nat, k ≤ (sof r.kind).length ∧ s.1 = (k : Int) ∧ ∃ g, WrS w5 B g4 w8 g ((vform r.kind.toNat ++ (iof r.kind).flatMap (intB r)) ++ ((sof r.kind).take k).flatMap (sgnB r))) (fun s _ => (sof r.kind).length - s.1.toNat) ⟨0, Nat.zero_le _, rfl, g, by simpa using hW⟩ ?_
  rintro ⟨k0, u⟩ w8 ⟨k, hk, hk0, g8, hW8⟩ _
  dsimp only at hk0 ⊢
  subst hk0
  refine cond_d (fun hlt => ?_) (fun hge => ?_)
  · have hkl : k < (sof r.kind).length := by omega
    have hmem := List.getElem_mem hkl
    refine (hr6.kp hW8.kp (ap a6 hf6)).idx (by omega) hlt (by simp) fun b o ha hcl => ?_
    refine ⟨some ⟨b1, (sof r.kind)[k], none⟩, by rw [Int.toNat_natCast, add_at]; exact hcl k _ (by simp [hkl, pv]), NilF.intro rfl ?_⟩
    refine ⟨_, (h1.kp' (hW8.old k15 hB1 hf4)).at rfl (gi_cell r m (sof_plc _ _ hmem)), ?_⟩
    have hz := hsg _ hmem
    refine hW8.S hz ?_ fun g' w' hW' => ⟨rfl, ?_⟩
    · have := flat_len (f := sgnB r) (n := 10) (L := (sof r.kind).take k) fun x hx => vform_len64 (zig_lt (hsg x (List.mem_of_mem_take hx)).1 (hsg x (List.mem_of_mem_take hx)).2)
      rw [List.length_append, List.length_append]
      rw [List.length_take] at this
      omega
    · rw [wk1 hkl (by omega)]
      refine ⟨⟨k + 1, by omega, rfl, g', ?_⟩, by simp only [Int.toNat_natCast]; omega⟩
      rw [flat_snoc hkl, ← List.append_assoc]
      exact hW'
  have hke : k = (sof r.kind).length := by omega
  subst hke
  rw [List.take_length] at hW8
  have l8 := flat_len (f := sgnB r) (n := 10) (L := sof r.kind) fun x hx => vform_len64 (zig_lt (hsg x hx).1 (hsg x hx).2)
  have henc : encB r = (vform r.kind.toNat ++ (iof r.kind).flatMap (intB r) ++ (sof r.kind).flatMap (sgnB r)) ++ tailB r := by unfold encB; simp only [List.append_assoc]
  generalize hpre : vform r.kind.toNat ++ (iof r.kind).flatMap (intB r) ++ (sof r.kind).flatMap (sgnB r) = pre at hW8 henc
  have lpre : pre.length ≤ 120 := by rw [← hpre]; simp only [List.length_append]; omega
  have box : ∀ {w' : World} {g' : Option Addr} {bs : List UInt8}, WrS w5 B g4 w' g' bs → Loc w w' b1 (r.ca m) T_api_Record := fun hh => h1.kp' (hh.old k15 hB1 hf4)
  have lis : ∀ {w' : World} {g' : Option Addr} {bs : List UInt8}, WrS w5 B g4 w' g' bs → LiIn w' m r.live r.dirty := fun hh => hi.kp0 (h1.kp.trans0 (hh.old k15 hB1 hf4))
  refine ⟨fun _ w' => ∃ g, WrS w5 B g4 w' g (encB r) ∧ (encB r).length ≤ 10000, ?_, ?_⟩
  · refine ⟨_, (box hW8).at rfl rfl, cond_eq (fun e8 => ?_) (fun n8 => ⟨g8, ?_⟩)⟩
    · obtain ⟨hl32, hd16, hL, hD⟩ := ok_lists hc0 e8
      have hll := hi.ll
      have hdl := hi.dl
      refine ⟨_, _, _, (box hW8).at rfl rfl, ?_⟩
      refine hW8.U (n := r.live.length) (by rw [u64_toNat (by omega) (by omega)]; omega) (by omega) (by omega) fun g10 w10 hW10 => ⟨rfl, ?_⟩
      refine ⟨_, _, _, (box hW10).at rfl rfl, ?_⟩
      have l10 := vlen31 (n := r.live.length) (by omega)
      have llv : ∀ x ∈ r.live, (lvB x).length ≤ 30 := fun x hx => by
        have hh := hL x hx
        have h1 := vlen31 (n := x.tx.toNat) (by omega)
        have h2 := vlen31 (n := x.last.toNat) (by omega)
        have h3 : (vform (stN x)).length ≤ 10 := vlen31 (by unfold stN; split <;> (try split) <;> omega)
        unfold lvB
        simp only [List.length_append]
        omega
      have ldv : ∀ x ∈ r.dirty, (dvB x).length ≤ 20 := fun x hx => by
        have hh := hD x hx
        have h1 := vlen31 (n := x.page.toNat) (by omega)
        have h2 := vlen31 (n := x.since.toNat) (by omega)
        unfold dvB
        simp only [List.length_append]
        omega
      refine loopN (fun s w11 => ∃ k : Nat, k ≤ r.live.length ∧ s.1 = (k : Int) ∧ ∃ g, WrS w5 B g4 w11 g ((pre ++ vform r.live.length) ++ (r.live.take k).flatMap lvB)) (fun s _ => r.live.length - s.1.toNat) ⟨0, Nat.zero_le _, rfl, g10, by simpa using hW10⟩ ?_
      rintro ⟨k0, u⟩ w11 ⟨k, hk, hk0, g11, hW11⟩ _
      dsimp only at hk0 ⊢
      subst hk0
      have lk : ((r.live.take k).flatMap lvB).length ≤ 960 := by
        have := flat_len (f := lvB) (n := 30) (L := r.live.take k) fun x hx => llv x (List.mem_of_mem_take hx)
        rw [List.length_take] at this
        omega
      refine cond_d (fun hlt => ?_) (fun hge => ?_)
      · have hkl : k < r.live.length := by omega
        have hx := hL _ (List.getElem_mem hkl)
        refine rd_el LV.csl (by omega) (lis hW11).l hkl hll fun b o ha hcl => ?_
        have cell : ∀ q v, (r.live[k]).cs[q]? = some v → w11.cell? (Addr.add ((⟨b, o, none⟩ : Addr).add (Int.toNat (k : Int) * 4)) q) = some v := fun q v hv => by
          rw [Int.toNat_natCast, add_at, add_at]; exact hcl q v hv
        have cell0 : w11.cell? ((⟨b, o, none⟩ : Addr).add (Int.toNat (k : Int) * 4)) = some (.int .i64 (r.live[k]).tx) := by
          rw [Int.toNat_natCast, add_at]; exact hcl 0 _ rfl
        refine ⟨_, _, _, _, ⟨cell0, cell 1 _ rfl, cell 2 _ rfl, cell 3 _ rfl, trivial⟩, ?_⟩
        refine lv_cp r.live[k] fun b2 w12 h12 => ?_
        have hW12 := hW11.kp0 h12.kp
        have q2 : ¬ fpW B g11 b2 := fun hh => by
          have := hW11.wr.lt b2 hh
          have := h12.nw
          omega
        have l11 : ((pre ++ vform r.live.length) ++ (r.live.take k).flatMap lvB).length ≤ 2000 := by simp only [List.length_append]; omega
        have hst : stN r.live[k] ≤ 2 := by unfold stN; split <;> (try split) <;> omega
        have v1 := vlen31 (n := (r.live[k]).tx.toNat) (by omega)
        have v2 := vlen31 (n := (r.live[k]).last.toNat) (by omega)
        -- the copy stays while the writer writes
        have hW12' : WrS w12 B g11 w12 g11 ((pre ++ vform r.live.length) ++ (r.live.take k).flatMap lvB) := WrS.init hW12.wr
        refine ⟨_, h12.at rfl rfl, ?_⟩
        refine hW12'.U (u64_toNat (by omega) (by omega)) (by omega) (by omega) fun g13 w13 hW13 => ⟨rfl, ?_⟩
        have b13 : Blk w13 b2 (r.live[k]).cs.toArray T_api_Live := hW13.kp.blk h12.blk q2
        refine ⟨_, b13.at rfl rfl, ?_⟩
        refine hW13.U (u64_toNat (by omega) (by omega)) (by omega) (by rw [List.length_append]; omega) fun g14 w14 hW14 => ⟨rfl, ?_⟩
        have b14 : Blk w14 b2 (r.live[k]).cs.toArray T_api_Live := hW14.kp.blk h12.blk q2
        refine ⟨_, _, _, _, ⟨b14.at rfl rfl, b14.at rfl rfl, b14.at rfl rfl, b14.at rfl rfl, trivial⟩, ?_⟩
        refine state_c (x := r.live[k]) fun w15 k15' => ⟨_, rfl, ?_⟩
        refine (hW14.kp0 k15').U rfl (by omega) (by rw [List.length_append, List.length_append]; omega) fun g16 w16 hW16 => ⟨rfl, ?_⟩
        rw [wk1 hkl (by omega)]
        refine ⟨⟨k + 1, by omega, rfl, g16, ?_⟩, by simp only [Int.toNat_natCast]; omega⟩
        have hfin := hW12.step hW16.wr hW16.kp hW16.nw
        rw [flat_snoc hkl, ← List.append_assoc]
        unfold lvB
        unfold lvB at hfin
        simp only [List.append_assoc] at hfin ⊢
        exact hfin
      have hke : k = r.live.length := by omega
      subst hke
      rw [List.take_length] at hW11 lk
      refine ⟨_, _, _, (box hW11).at rfl rfl, ?_⟩
      refine hW11.U (n := r.dirty.length) (by rw [u64_toNat (by omega) (by omega)]; omega) (by omega) (by simp only [List.length_append]; omega) fun g21 w21 hW21 => ⟨rfl, ?_⟩
      refine ⟨_, _, _, (box hW21).at rfl rfl, ?_⟩
      have l21 := vlen31 (n := r.dirty.length) (by omega)
      refine loopN (fun s w22 => ∃ k : Nat, k ≤ r.dirty.length ∧ s.1 = (k : Int) ∧ ∃ g, WrS w5 B g4 w22 g ((((pre ++ vform r.live.length) ++ r.live.flatMap lvB) ++ vform r.dirty.length) ++ (r.dirty.take k).flatMap dvB)) (fun s _ => r.dirty.length - s.1.toNat) ⟨0, Nat.zero_le _, rfl, g21, by simpa using hW21⟩ ?_
      rintro ⟨k0, u⟩ w22 ⟨k, hk, hk0, g22, hW22⟩ _
      dsimp only at hk0 ⊢
      subst hk0
      have lkd : ((r.dirty.take k).flatMap dvB).length ≤ 320 := by
        have := flat_len (f := dvB) (n := 20) (L := r.dirty.take k) fun x hx => ldv x (List.mem_of_mem_take hx)
        rw [List.length_take] at this
        omega
      refine cond_d (fun hlt => ?_) (fun hge => ?_)
      · have hkl : k < r.dirty.length := by omega
        have hx := hD _ (List.getElem_mem hkl)
        refine rd_el DV.csl (by omega) (lis hW22).d hkl hdl fun b o ha hcl => ?_
        have cell1 : w22.cell? (Addr.add ((⟨b, o, none⟩ : Addr).add (Int.toNat (k : Int) * 2)) 1) = some (.int .i64 (r.dirty[k]).since) := by
          rw [Int.toNat_natCast, add_at, add_at]; exact hcl 1 _ rfl
        have cell0 : w22.cell? ((⟨b, o, none⟩ : Addr).add (Int.toNat (k : Int) * 2)) = some (.int .i64 (r.dirty[k]).page) := by
          rw [Int.toNat_natCast, add_at]; exact hcl 0 _ rfl
        refine ⟨_, _, ⟨cell0, cell1, trivial⟩, ?_⟩
        refine dv_cp r.dirty[k] fun b2 w12 h12 => ?_
        have hW12 := hW22.kp0 h12.kp
        have q2 : ¬ fpW B g22 b2 := fun hh => by
          have := hW22.wr.lt b2 hh
          have := h12.nw
          omega
        have l22 : ((((pre ++ vform r.live.length) ++ r.live.flatMap lvB) ++ vform r.dirty.length) ++ (r.dirty.take k).flatMap dvB).length ≤ 3000 := by simp only [List.length_append]; omega
        have v1 := vlen31 (n := (r.dirty[k]).page.toNat) (by omega)
        have hW12' : WrS w12 B g22 w12 g22 ((((pre ++ vform r.live.length) ++ r.live.flatMap lvB) ++ vform r.dirty.length) ++ (r.dirty.take k).flatMap dvB) := WrS.init hW12.wr
        refine ⟨_, h12.at rfl rfl, ?_⟩
        refine hW12'.U (u64_toNat (by omega) (by omega)) (by omega) (by omega) fun g13 w13 hW13 => ⟨rfl, ?_⟩
        have b13 : Blk w13 b2 (r.dirty[k]).cs.toArray T_api_Dirty := hW13.kp.blk h12.blk q2
        refine ⟨_, b13.at rfl rfl, ?_⟩
        refine hW13.U (u64_toNat (by omega) (by omega)) (by omega) (by rw [List.length_append]; omega) fun g14 w14 hW14 => ⟨rfl, ?_⟩
        rw [wk1 hkl (by omega)]
        refine ⟨⟨k + 1, by omega, rfl, g14, ?_⟩, by simp only [Int.toNat_natCast]; omega⟩
        have hfin := hW12.step hW14.wr hW14.kp hW14.nw
        rw [flat_snoc hkl, ← List.append_assoc]
        unfold dvB
        unfold dvB at hfin
        simp only [List.append_assoc] at hfin ⊢
        exact hfin
      have hke : k = r.dirty.length := by omega
      subst hke
      rw [List.take_length] at hW22 lkd
      refine ⟨g22, ?_⟩
      have he : encB r = (((pre ++ vform r.live.length) ++ r.live.flatMap lvB) ++ vform r.dirty.length) ++ r.dirty.flatMap dvB := by
        rw [henc]
        unfold tailB
        rw [if_pos e8]
        simp only [List.append_assoc]
      rw [he]
      refine ⟨hW22, ?_⟩
      simp only [List.length_append]
      omega
    · have : tailB r = [] := by unfold tailB; rw [if_neg n8]
      rw [henc, this, List.append_nil]
      exact ⟨hW8, by omega⟩
  · rintro _ w9 ⟨g9, hW9, hlen⟩ _
    refine writer_Out hW9.wr (by omega) fun a c w' hs k' hf => ⟨_, _, _, rfl, ?_⟩
    have kk : Kp no w w9 := h1.kp.trans0 (hW9.old k15 hB1 hf4)
    exact hok hc0 a c w' (kk.trans0 k') hs fun k hk => by
      have := hf k hk
      have := kk.size
      omega
def mst (k : Int) : Nat := if k = 8 then 2147483648 else 2147483647
def rdInts (bs : List UInt8) (M : Nat) : List Nat → RV × (Nat × Nat) → RV × (Nat × Nat)
  | [], s => s
  | o :: l, s => rdInts bs M l (s.1.put ((rdU bs s.2 M).1 : Int) o, (rdU bs s.2 M).2)
def rdSgn (bs : List UInt8) : List Nat → RV × (Nat × Nat) → RV × (Nat × Nat)
  | [], s => s
  | o :: l, s => rdSgn bs l (s.1.put (unzig (rdU bs s.2 18446744073709551615).1) o, (rdU bs s.2 18446744073709551615).2)
def rdL1 (bs : List UInt8) (st : Nat × Nat) : LV × (Nat × Nat) :=
  (⟨((rdU bs st 2147483647).1 : Int), ((rdU bs (rdU bs st 2147483647).2 2147483647).1 : Int), ((rdU bs (rdU bs (rdU bs st 2147483647).2 2147483647).2 2).1 : Int) == 1, ((rdU bs (rdU bs (rdU bs st 2147483647).2 2147483647).2 2).1 : Int) == 2⟩,
   (rdU bs (rdU bs (rdU bs st 2147483647).2 2147483647).2 2).2)
def rdD1 (bs : List UInt8) (st : Nat × Nat) : DV × (Nat × Nat) :=
  (⟨((rdU bs st 2147483647).1 : Int), ((rdU bs (rdU bs st 2147483647).2 2147483647).1 : Int)⟩, (rdU bs (rdU bs st 2147483647).2 2147483647).2)
def rdLive (bs : List UInt8) : Nat → List LV × (Nat × Nat) → List LV × (Nat × Nat)
  | 0, s => s
  | n + 1, s => rdLive bs n (s.1 ++ [(rdL1 bs s.2).1], (rdL1 bs s.2).2)
def rdDirty (bs : List UInt8) : Nat → List DV × (Nat × Nat) → List DV × (Nat × Nat)
  | 0, s => s
  | n + 1, s => rdDirty bs n (s.1 ++ [(rdD1 bs s.2).1], (rdD1 bs s.2).2)
def rdCp (bs : List UInt8) (s : RV × (Nat × Nat)) : RV × (Nat × Nat) :=
  let n := rdU bs s.2 32
  let l := rdLive bs n.1 (s.1.live, n.2)
  let d := rdU bs l.2 16
  let e := rdDirty bs d.1 (s.1.dirty, d.2)
  ({ s.1 with live := l.1, dirty := e.1 }, e.2)
def rdTail (bs : List UInt8) (s : RV × (Nat × Nat)) : RV × (Nat × Nat) := if s.1.kind = 8 then rdCp bs s else s
def rdRec (bs : List UInt8) (k : Int) (st : Nat × Nat) : RV × (Nat × Nat) := rdTail bs (rdSgn bs (sof k) (rdInts bs (mst k) (iof k) ({ kind := k }, st)))
def endE (bs : List UInt8) (st : Nat × Nat) : Nat := if st.2 = 0 ∧ st.1 < bs.length then 21 else st.2
def decB (bs : List UInt8) : RV × Nat :=
  let a := rdU bs (0, 0) 18446744073709551615
  if a.2.2 ≠ 0 then ({}, a.2.2) else if a.1 < 1 ∨ 8 < a.1 then ({}, 70) else
  let x := rdRec bs (a.1 : Int) a.2
  if endE bs x.2 ≠ 0 then ({}, endE bs x.2) else if chkN x.1 ≠ 0 then ({}, chkN x.1) else (x.1, 0)
theorem rdU_le (bs : List UInt8) (st : Nat × Nat) (m : Nat) : (rdU bs st m).1 ≤ m := by
  unfold rdU
  split
  · split
    · split
      · simp
      · simp only; omega
    · simp
  · simp
theorem put_kind {r : RV} {v : Int} {o : Nat} (ho : o ∈ plc) : (r.put v o).kind = r.kind ∧ (r.put v o).live = r.live ∧ (r.put v o).dirty = r.dirty ∧ (r.put v o).lsn = r.lsn := by
  simp only [plc, List.mem_cons, List.mem_nil_iff, or_false] at ho
  rcases ho with rfl | rfl | rfl | rfl | rfl | rfl | rfl | rfl | rfl | rfl | rfl | rfl | rfl <;> exact ⟨rfl, rfl, rfl, rfl⟩
theorem er_lv : ElemRow Tryz.prog T_s_api_Live T_api_Live (.agg #[.int .i64 0, .int .i64 0, .bool false, .bool false]) 4 24 := elemRow (by kernel_rfl) (by kernel_rfl) rfl
theorem er_dv : ElemRow Tryz.prog T_s_api_Dirty T_api_Dirty (.agg #[.int .i64 0, .int .i64 0]) 2 16 := elemRow (by kernel_rfl) (by kernel_rfl) rfl
theorem LV.cs1 (x : LV) : ∀ u ∈ x.cs, u.oneCell' = true := by
  intro u hu
  simp only [LV.cs, List.mem_cons, List.mem_nil_iff, or_false] at hu
  rcases hu with rfl | rfl | rfl | rfl <;> rfl
theorem DV.cs1 (x : DV) : ∀ u ∈ x.cs, u.oneCell' = true := by
  intro u hu
  simp only [DV.cs, List.mem_cons, List.mem_nil_iff, or_false] at hu
  rcases hu with rfl | rfl <;> rfl
structure Bx (w0 w : World) (ow : Nat → Nat) (b1 b2 : Nat) (r : RV) (m : Mm) : Prop where
  old : Old w0 w ow
  x1 : Blk w b1 (({} : RV).ca {}) T_api_Record
  t1 : ow b1 = 1
  x2 : Blk w b2 (r.ca m) T_api_Record
  t2 : ow b2 = 2
theorem Bx.fr {T : Nat → Prop} {w0 w w' : World} {ow ow' : Nat → Nat} {b1 b2 : Nat} {r : RV} {m : Mm} (h : Bx w0 w ow b1 b2 r m) (f : Fro T w ow w' ow') (h0 : T 0) (h1 : T 1) (h2 : T 2) : Bx w0 w' ow' b1 b2 r m := by
  obtain ⟨a, b⟩ := blk_fr h.x1 h.t1 f h1
  obtain ⟨c, d⟩ := blk_fr h.x2 h.t2 f h2
  exact ⟨h.old.fr f h0, a, b, c, d⟩
theorem Bx.st {w0 w : World} {ow : Nat → Nat} {b1 b2 o : Nat} {r : RV} {m : Mm} {ad : Addr} {v : Value} {K : World → Prop} (h : Bx w0 w ow b1 b2 r m) (r3 : RV) (m3 : Mm) (had : ad = ⟨b2, o, none⟩) (ho : o < 17)
    (he : (r.ca m).setIfInBounds o v = r3.ca m3) (hk : ∀ w', Bx w0 w' ow b1 b2 r3 m3 → Fro (fun t => t ≠ 2) w ow w' ow → K w') : StF w ad v K :=
  StF.at had h.x2 ho fun w' hb' k' _ => by
    have f : Fro (fun t => t ≠ 2) w ow w' ow := Fro.of_kp' k' fun b _ hb hne => hne (by rw [hb]; exact h.t2)
    obtain ⟨a, b⟩ := blk_fr h.x1 h.t1 f (by omega)
    exact hk w' ⟨h.old.fr f (by omega), a, b, he ▸ hb', h.t2⟩ f
structure Rr (w : World) (ow : Nat → Nat) (B : Nat) (g : Option Addr) (bs : List UInt8) (st : Nat × Nat) : Prop where
  re : Re w B g bs st.1 st.2
  t3 : Tg ow 3 (fpW B g)
theorem Rr.fr {T : Nat → Prop} {w w' : World} {ow ow' : Nat → Nat} {B : Nat} {g : Option Addr} {bs : List UInt8} {st : Nat × Nat} (h : Rr w ow B g bs st) (f : Fro T w ow w' ow') (h3 : T 3) : Rr w' ow' B g bs st :=
  ⟨h.re.kp f.kp fun b hb hn => hn (by rw [h.t3 b hb]; exact h3), h.t3.fr f h3 h.re.lt⟩
theorem Rr.U {w : World} {ow : Nat → Nat} {B : Nat} {g : Option Addr} {bs : List UInt8} {st : Nat × Nat} {M : Nat} {R : Po} (h : Rr w ow B g bs st) (hb : bs.length < 140737488355329)
    (hk : ∀ w', Rr w' ow B g bs (rdU bs st M).2 → Fro (fun t => t ≠ 3) w ow w' ow → R (.returned (.int .u64 ((rdU bs st M).1 : Int))) w') : GoC Tryz.prog F_field_Reader_U #[.pointer (some ⟨B, 0, none⟩), .int .u64 (M : Int)] w R :=
  reader_U h.re hb fun w' hr k => hk w' ⟨hr, h.t3⟩ (Fro.of_kp' k fun b _ hb' hne => hne (h.t3 b (.inl hb')))
theorem Rr.S {w : World} {ow : Nat → Nat} {B : Nat} {g : Option Addr} {bs : List UInt8} {st : Nat × Nat} {R : Po} (h : Rr w ow B g bs st) (hb : bs.length < 140737488355329)
    (hk : ∀ w', Rr w' ow B g bs (rdU bs st 18446744073709551615).2 → Fro (fun t => t ≠ 3) w ow w' ow → R (.returned (.int .i64 (unzig (rdU bs st 18446744073709551615).1))) w') : GoC Tryz.prog F_field_Reader_S #[.pointer (some ⟨B, 0, none⟩)] w R :=
  reader_S h.re hb fun w' hr k => hk w' ⟨hr, h.t3⟩ (Fro.of_kp' k fun b _ hb' hne => hne (h.t3 b (.inl hb')))
structure RdR (w : World) (ow : Nat → Nat) (a : Option Addr) (xs : List Value) (t : Nat) : Prop where
  rd : Rd w a xs
  tg : xs ≠ [] → Tg ow t (Is a)
theorem RdR.fr {T : Nat → Prop} {w w' : World} {ow ow' : Nat → Nat} {a : Option Addr} {xs : List Value} {t : Nat} (h : RdR w ow a xs t) (f : Fro T w ow w' ow') (ht : T t) : RdR w' ow' a xs t := by
  by_cases hx : xs = []
  · subst hx
    exact ⟨Rd.nil _ _, fun hh => absurd rfl hh⟩
  · refine ⟨h.rd.kp f.kp fun b hb hn => hn (by rw [h.tg hx b hb]; exact ht), fun _ => (h.tg hx).fr f ht fun k hk => ?_⟩
    obtain ⟨b, o, ha, hlt, _⟩ := h.rd.addr hx
    obtain ⟨ad, had, rfl⟩ := hk
    rw [ha] at had
    cases had
    exact hlt
structure LsR (w : World) (ow : Nat → Nat) (r : RV) (m : Mm) : Prop where
  lv : SlT w ow T_api_Live 4 m.la m.ll m.lc (flatV LV.cs r.live) 4
  dv : SlT w ow T_api_Dirty 2 m.da m.dl m.dc (flatV DV.cs r.dirty) 5
  ll : r.live.length = m.ll
  dl : r.dirty.length = m.dl
theorem LsR.fr {T : Nat → Prop} {w w' : World} {ow ow' : Nat → Nat} {r : RV} {m : Mm} (h : LsR w ow r m) (f : Fro T w ow w' ow') (h4 : T 4) (h5 : T 5) : LsR w' ow' r m := ⟨h.lv.fr f h4, h.dv.fr f h5, h.ll, h.dl⟩
theorem LsR.li {w : World} {ow : Nat → Nat} {r : RV} {m : Mm} (h : LsR w ow r m) (hl : m.ll < 140737488355329) (hd : m.dl < 140737488355329) : LiIn w m r.live r.dirty := ⟨h.lv.sl.rd, h.ll, hl, h.dv.sl.rd, h.dl, hd⟩
end Go.Proofs.YtkfdkcclojepnaaGreat
