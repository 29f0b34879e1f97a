/- General: lists of counters and groups as owned slices; a page's four cells written at once. Conditions: none. -/
import Derived.Test.YtnkdonpammdldaaDoorGi
set_option linter.unusedVariables false
set_option linter.unusedSimpArgs false
namespace Go.Proofs.YtnkdonpammdldaaDoor
open Go Go.RowKit

/-- Elements' cells, one behind the other. -/
def flatV {α : Type} (f : α → List Value) : List α → List Value
  | [] => []
  | x :: r => f x ++ flatV f r
theorem flatV_len {α : Type} {f : α → List Value} {s : Nat} (hs : ∀ x, (f x).length = s) : ∀ L, (flatV f L).length = L.length * s
  | [] => by simp [flatV]
  | x :: r => by rw [flatV, List.length_append, hs, flatV_len hs r, List.length_cons, Nat.add_mul, Nat.one_mul, Nat.add_comm]
theorem flatV_app {α : Type} (f : α → List Value) : ∀ L M, flatV f (L ++ M) = flatV f L ++ flatV f M
  | [], M => rfl
  | x :: r, M => by rw [List.cons_append, flatV, flatV, flatV_app f r M, List.append_assoc]
theorem flatV_get {α : Type} {f : α → List Value} {s : Nat} (hs : ∀ x, (f x).length = s) : ∀ (L : List α) (i : Nat) (h : i < L.length) (q : Nat), q < s → (flatV f L)[i * s + q]? = (f L[i])[q]?
  | [], i, h, _, _ => by simp at h
  | x :: r, 0, h, q, hq => by rw [flatV, Nat.zero_mul, Nat.zero_add, List.getElem?_append_left (by rw [hs]; exact hq)]; rfl
  | x :: r, i + 1, h, q, hq => by
    have h1 : (i + 1) * s + q = (f x).length + (i * s + q) := by rw [hs, Nat.add_mul, Nat.one_mul]; omega
    rw [flatV, h1, List.getElem?_append_right (by omega), Nat.add_sub_cancel_left, flatV_get hs r i (by simpa using h) q hq]
    rfl
theorem flatV_one {α : Type} {f : α → List Value} (h1 : ∀ x, ∀ u ∈ f x, u.oneCell' = true) : ∀ L, ∀ u ∈ flatV f L, u.oneCell' = true
  | [], u, hu => by cases hu
  | x :: r, u, hu => by
    rw [flatV, List.mem_append] at hu
    rcases hu with hu | hu
    · exact h1 x u hu
    · exact flatV_one h1 r u hu
theorem flatV_take {α : Type} {f : α → List Value} {s : Nat} (hs : ∀ x, (f x).length = s) : ∀ (L : List α) (k : Nat), (flatV f L).take (k * s) = flatV f (L.take k)
  | L, 0 => by simp [flatV]
  | [], k + 1 => by simp [flatV]
  | x :: r, k + 1 => by
    rw [flatV, List.take_succ_cons, flatV, Nat.add_mul, Nat.one_mul, Nat.add_comm, List.take_append, hs, List.take_of_length_le (by rw [hs]; omega), Nat.add_sub_cancel_left, flatV_take hs r k]

def fC : List CL → List Value := flatV CL.cs
def fG : List GL → List Value := flatV GL.cs
theorem CL.cs_len (c : CL) : c.cs.length = 5 := rfl
theorem GL.cs_len (c : GL) : c.cs.length = 2 := rfl
theorem fC_len (L : List CL) : (fC L).length = L.length * 5 := flatV_len CL.cs_len L
theorem fG_len (L : List GL) : (fG L).length = L.length * 2 := flatV_len GL.cs_len L
theorem fC_one (L : List CL) : ∀ u ∈ fC L, u.oneCell' = true := flatV_one (fun x u hu => by simp only [CL.cs, List.mem_cons, List.not_mem_nil, or_false] at hu; rcases hu with rfl | rfl | rfl | rfl | rfl <;> rfl) L
theorem fG_one (L : List GL) : ∀ u ∈ fG L, u.oneCell' = true := flatV_one (fun x u hu => by simp only [GL.cs, List.mem_cons, List.not_mem_nil, or_false] at hu; rcases hu with rfl | rfl <;> rfl) L
theorem fC_app (L M : List CL) : fC (L ++ M) = fC L ++ fC M := flatV_app _ _ _
theorem fG_app (L M : List GL) : fG (L ++ M) = fG L ++ fG M := flatV_app _ _ _

theorem ge5 {q : Nat} {l : List Value} {v : Value} (h : l[q]? = some v) : q < l.length := (List.getElem?_eq_some_iff.1 h).1

theorem CsIn.of_rd {w : World} {a : Option Addr} {L : List CL} (h : Rd w a (fC L)) : CsIn w a L := fun i hi => by
  have hne : fC L ≠ [] := fun h0 => by have := fC_len L; rw [h0] at this; simp at this; omega
  obtain ⟨b, o, ha, _, hc⟩ := h.addr hne
  refine ⟨b, o, ha, fun q v hv => ?_⟩
  have hq := ge5 hv
  rw [CL.cs_len] at hq
  rw [Nat.add_assoc]
  exact hc _ _ (by unfold fC; rw [flatV_get CL.cs_len L i hi q hq]; exact hv)
theorem GsIn.of_rd {w : World} {a : Option Addr} {L : List GL} (h : Rd w a (fG L)) : GsIn w a L := fun i hi => by
  have hne : fG L ≠ [] := fun h0 => by have := fG_len L; rw [h0] at this; simp at this; omega
  obtain ⟨b, o, ha, _, hc⟩ := h.addr hne
  refine ⟨b, o, ha, fun q v hv => ?_⟩
  have hq := ge5 hv
  rw [GL.cs_len] at hq
  rw [Nat.add_assoc]
  exact hc _ _ (by unfold fG; rw [flatV_get GL.cs_len L i hi q hq]; exact hv)
theorem CsIn.rd {w : World} {a : Option Addr} {L : List CL} (h : CsIn w a L) : Rd w a (fC L) := fun j v hv => by
  have hj := ge5 hv
  rw [fC_len] at hj
  have hi : j / 5 < L.length := by omega
  have hq : j % 5 < 5 := Nat.mod_lt _ (by omega)
  have hjj : j = j / 5 * 5 + j % 5 := by omega
  rw [hjj] at hv
  unfold fC at hv
  rw [flatV_get CL.cs_len L _ hi _ hq] at hv
  obtain ⟨b, o, ha, hc⟩ := h _ hi
  refine ⟨b, o, ha, ?_⟩
  have := hc _ _ hv
  rw [Nat.add_assoc, ← hjj] at this
  exact this
theorem GsIn.rd {w : World} {a : Option Addr} {L : List GL} (h : GsIn w a L) : Rd w a (fG L) := fun j v hv => by
  have hj := ge5 hv
  rw [fG_len] at hj
  have hi : j / 2 < L.length := by omega
  have hq : j % 2 < 2 := Nat.mod_lt _ (by omega)
  have hjj : j = j / 2 * 2 + j % 2 := by omega
  rw [hjj] at hv
  unfold fG at hv
  rw [flatV_get GL.cs_len L _ hi _ hq] at hv
  obtain ⟨b, o, ha, hc⟩ := h _ hi
  refine ⟨b, o, ha, ?_⟩
  have := hc _ _ hv
  rw [Nat.add_assoc, ← hjj] at this
  exact this

theorem er_ctr : ElemRow Tryd.prog T_s_api_Counter T_api_Counter (.agg #[.int .i64 0, .int .i64 0, .int .i64 0, .int .i64 0, .int .i64 0]) 5 40 := elemRow (by kernel_rfl) (by kernel_rfl) rfl
theorem er_grp : ElemRow Tryd.prog T_s_api_Group T_api_Group (.agg #[.int .i64 0, .int .i64 0]) 2 16 := elemRow (by kernel_rfl) (by kernel_rfl) rfl

theorem rd_cells {w : World} {b : Nat} {T : TypeId} {xs : List Value} {cs : Array Value} (h : Blk w b cs T) (hc : cs.toList = xs) : Rd w (some ⟨b, 0, none⟩) xs :=
  Rd.of_blk h fun i v hv => by rw [Nat.zero_add, ← Array.getElem?_toList, hc]; exact hv

/-- Four cells of a block, written one behind the other. -/
theorem st4 {w : World} {b : Nat} {cur : Array Value} {T : TypeId} (hb : Blk w b cur T) (hs : cur.size = 4) {v0 v1 v2 v3 : Value} {K : World → Prop}
    (h : ∀ w', Blk w' b #[v0, v1, v2, v3] T → Kp (fun k => k = b) w w' → w'.heap.size = w.heap.size → K w') :
    StF w ⟨b, 0, none⟩ v0 fun w1 => StF w1 (Addr.add ⟨b, 0, none⟩ 1) v1 fun w2 => StF w2 (Addr.add ⟨b, 0, none⟩ 2) v2 fun w3 => StF w3 (Addr.add ⟨b, 0, none⟩ 3) v3 K := by
  refine StF.intro hb (by omega) fun w1 hb1 k1 e1 => ?_
  rw [add_at, add_at, add_at]
  refine StF.intro hb1 (by simp; omega) fun w2 hb2 k2 e2 => StF.intro hb2 (by simp; omega) fun w3 hb3 k3 e3 => StF.intro hb3 (by simp; omega) fun w4 hb4 k4 e4 => h w4 ?_ (((k1.trans0 k2).trans0 k3).trans0 k4) (by omega)
  have : (((cur.setIfInBounds 0 v0).setIfInBounds (0 + 1) v1).setIfInBounds (0 + 2) v2).setIfInBounds (0 + 3) v3 = #[v0, v1, v2, v3] := by
    apply Array.ext_getElem?
    intro i
    simp only [Array.getElem?_setIfInBounds]
    match i with
    | 0 => simp [hs]
    | 1 => simp [hs]
    | 2 => simp [hs]
    | 3 => simp [hs]
    | i + 4 => simp [hs]
  rw [this] at hb4
  exact hb4

/-- A page written into a block, and read out again. -/
theorem ret4 {w : World} {b : Nat} {cur : Array Value} {T : TypeId} (hb : Blk w b cur T) (hs : cur.size = 4) {n l : Int} {ca : Option Addr} {cl cc : Nat} {ga : Option Addr} {gl gc : Nat} {K : Array Value → World → Prop}
    (h : ∀ w', Blk w' b #[.int .i64 n, .int .i64 l, .slice ca cl cc, .slice ga gl gc] T → Kp (fun k => k = b) w w' → w'.heap.size = w.heap.size → K #[.int .i64 n, .int .i64 l, .slice ca cl cc, .slice ga gl gc] w') :
    StF w ⟨b, 0, none⟩ (.int .i64 n) fun w1 => StF w1 (Addr.add ⟨b, 0, none⟩ 1) (.int .i64 l) fun w2 => StF w2 (Addr.add ⟨b, 0, none⟩ 2) (.slice ca cl cc) fun w3 => StF w3 (Addr.add ⟨b, 0, none⟩ 3) (.slice ga gl gc) fun w4 =>
      ∃ (n2 : Int) (n3 : Int) (a2 : Option Addr) (l2 c2 : Nat) (a3 : Option Addr) (l3 c3 : Nat), (w4.cell? ⟨b, 0, none⟩ = some (.int .i64 n2) ∧ w4.cell? (Addr.add ⟨b, 0, none⟩ 1) = some (.int .i64 n3) ∧ w4.cell? (Addr.add ⟨b, 0, none⟩ 2) = some (.slice a2 l2 c2) ∧ w4.cell? (Addr.add ⟨b, 0, none⟩ 3) = some (.slice a3 l3 c3) ∧ True) ∧
        K #[.int .i64 n2, .int .i64 n3, .slice a2 l2 c2, .slice a3 l3 c3] w4 :=
  st4 hb hs fun w' hb' k' e' => ⟨n, l, ca, cl, cc, ga, gl, gc, ⟨hb'.cell 0, by rw [add_at]; exact hb'.cell 1, by rw [add_at]; exact hb'.cell 2, by rw [add_at]; exact hb'.cell 3, trivial⟩, h w' hb' k' e'⟩

/-- A page read out of a block. -/
theorem rd4 {w : World} {b : Nat} {T : TypeId} {p : PgV} (hb : Blk w b p.cs T) {K : Array Value → Prop} (h : K p.cs) :
    ∃ (n2 : Int) (n3 : Int) (a2 : Option Addr) (l2 c2 : Nat) (a3 : Option Addr) (l3 c3 : Nat), (w.cell? ⟨b, 0, none⟩ = some (.int .i64 n2) ∧ w.cell? (Addr.add ⟨b, 0, none⟩ 1) = some (.int .i64 n3) ∧ w.cell? (Addr.add ⟨b, 0, none⟩ 2) = some (.slice a2 l2 c2) ∧ w.cell? (Addr.add ⟨b, 0, none⟩ 3) = some (.slice a3 l3 c3) ∧ True) ∧
        K #[.int .i64 n2, .int .i64 n3, .slice a2 l2 c2, .slice a3 l3 c3] :=
  ⟨p.num, p.lsn, p.ca, p.cl, p.cc, p.ga, p.gl, p.gc, ⟨hb.cell 0, by rw [add_at]; exact hb.cell 1, by rw [add_at]; exact hb.cell 2, by rw [add_at]; exact hb.cell 3, trivial⟩, h⟩

/-- A page with lists of its own. -/
structure PgV.Own (p : PgV) (w : World) (cs : List CL) (gs : List GL) : Prop where
  c : Sl w T_api_Counter 5 p.ca p.cl p.cc (fC cs)
  cb : p.cl < 70368744177664
  g : Sl w T_api_Group 2 p.ga p.gl p.gc (fG gs)
  gb : p.gl < 70368744177664
theorem PgV.Own.cl {p : PgV} {w : World} {cs : List CL} {gs : List GL} (h : p.Own w cs gs) : cs.length = p.cl := by
  have := h.c.1
  rw [fC_len] at this
  omega
theorem PgV.Own.gl {p : PgV} {w : World} {cs : List CL} {gs : List GL} (h : p.Own w cs gs) : gs.length = p.gl := by
  have := h.g.1
  rw [fG_len] at this
  omega
theorem PgV.Own.to_in {p : PgV} {w : World} {cs : List CL} {gs : List GL} (h : p.Own w cs gs) : p.In w cs gs := ⟨.of_rd h.c.rd, h.cl, h.cb, .of_rd h.g.rd, h.gl, h.gb⟩
theorem PgV.Own.kp {S : Nat → Prop} {p : PgV} {w w' : World} {cs : List CL} {gs : List GL} (h : p.Own w cs gs) (k : Kp S w w') (hc : ∀ b, Is p.ca b → ¬ S b) (hg : ∀ b, Is p.ga b → ¬ S b) : p.Own w' cs gs := ⟨h.c.kp k hc, h.cb, h.g.kp k hg, h.gb⟩
theorem PgV.Own.kp0 {p : PgV} {w w' : World} {cs : List CL} {gs : List GL} (h : p.Own w cs gs) (k : Kp no w w') : p.Own w' cs gs := ⟨h.c.kp0 k, h.cb, h.g.kp0 k, h.gb⟩
def pg0 : PgV := ⟨0, 0, none, 0, 0, none, 0, 0⟩
def PgV.zero (n : Int) : PgV := ⟨n, 0, none, 0, 0, none, 0, 0⟩
theorem own_zero (w : World) (n : Int) : (PgV.zero n).Own w [] [] := ⟨Sl.nil _ _ _, by simp [PgV.zero], Sl.nil _ _ _, by simp [PgV.zero]⟩
theorem is_none {k : Nat} (h : Is none k) : False := by obtain ⟨ad, h0, _⟩ := h; cases h0
end Go.Proofs.YtnkdonpammdldaaDoor
