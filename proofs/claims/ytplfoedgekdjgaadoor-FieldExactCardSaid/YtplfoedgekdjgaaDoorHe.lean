/- The statements' table of layer 2 and its book: owners of blocks, what is kept; the contract of 'holds'. Conditions: up to a thousand entries. -/
import Derived.Test.YtplfoedgekdjgaaDoorHd
set_option linter.unusedVariables false
set_option linter.unusedSimpArgs false
namespace Go.Proofs.YtplfoedgekdjgaaDoor
open Go Go.RowKit

/-- From one world and its owners to a later one: blocks whose owner is in T are kept, and so is their owner. -/
structure Fro (T : Nat → Prop) (w : World) (ow : Nat → Nat) (w' : World) (ow' : Nat → Nat) : Prop where
  kp : Kp (fun k => ¬ T (ow k)) w w'
  ag : ∀ k, k < w.heap.size → T (ow k) → ow' k = ow k

theorem Fro.trans {T : Nat → Prop} {w w1 w2 : World} {ow ow1 ow2 : Nat → Nat} (h : Fro T w ow w1 ow1) (h' : Fro T w1 ow1 w2 ow2) : Fro T w ow w2 ow2 := by
  refine ⟨h.kp.trans h'.kp (fun _ _ h => h) fun k hk hn ht => hn (by rw [h.ag k hk ht]; exact ht), fun k hk ht => ?_⟩
  have h1 := h.ag k hk ht
  rw [h'.ag k (by have := h.kp.size; omega) (by rw [h1]; exact ht), h1]
theorem Fro.mono {T T' : Nat → Prop} {w w' : World} {ow ow' : Nat → Nat} (h : Fro T w ow w' ow') (ht : ∀ t, T' t → T t) : Fro T' w ow w' ow' :=
  ⟨h.kp.mono fun k _ hn ht' => hn (ht _ ht'), fun k hk h1 => h.ag k hk (ht _ h1)⟩

/-- New blocks get an owner. -/
def ext (ow : Nat → Nat) (n t : Nat) : Nat → Nat := fun k => if k < n then ow k else t
theorem ext_old {ow : Nat → Nat} {n t k : Nat} (h : k < n) : ext ow n t k = ow k := by unfold ext; rw [if_pos h]
theorem ext_new {ow : Nat → Nat} {n t k : Nat} (h : n ≤ k) : ext ow n t k = t := by unfold ext; rw [if_neg (by omega)]
theorem Fro.of_kp {T S : Nat → Prop} {w w' : World} {ow : Nat → Nat} (t : Nat) (k : Kp S w w') (hs : ∀ b, b < w.heap.size → S b → ¬ T (ow b)) : Fro T w ow w' (ext ow w.heap.size t) :=
  ⟨k.mono fun b hb h => hs b hb h, fun b hb _ => ext_old hb⟩
theorem Fro.of_kp0 {T : Nat → Prop} {w w' : World} {ow : Nat → Nat} (t : Nat) (k : Kp no w w') : Fro T w ow w' (ext ow w.heap.size t) := Fro.of_kp t k fun _ _ h => h.elim

def Tg (ow : Nat → Nat) (t : Nat) (F : Nat → Prop) : Prop := ∀ k, F k → ow k = t
theorem Tg.fr {T F : Nat → Prop} {w w' : World} {ow ow' : Nat → Nat} {t : Nat} (h : Tg ow t F) (f : Fro T w ow w' ow') (ht : T t) (hlt : ∀ k, F k → k < w.heap.size) : Tg ow' t F := fun k hk => by
  have := h k hk
  rw [f.ag k (hlt k hk) (by rw [this]; exact ht), this]

/-- The caller's blocks have owner 0, and are as they were. -/
structure Old (w0 w : World) (ow : Nat → Nat) : Prop where
  kp : Kp no w0 w
  z : ∀ k, k < w0.heap.size → ow k = 0
theorem Old.fr {T : Nat → Prop} {w0 w w' : World} {ow ow' : Nat → Nat} (h : Old w0 w ow) (f : Fro T w ow w' ow') (ht : T 0) : Old w0 w' ow' := by
  refine ⟨h.kp.trans f.kp (fun _ _ h => h) fun k hk hn => (hn (by rw [h.z k hk]; exact ht)).elim, fun k hk => ?_⟩
  have := h.z k hk
  rw [f.ag k (by have := h.kp.size; omega) (by rw [this]; exact ht), this]

/-- A writer, and what it is said to have written. -/
def WrI (w : World) (ow : Nat → Nat) (t M : Nat) (p s : Value) : Prop :=
  ∃ B g bs a c, p = .pointer (some ⟨B, 0, none⟩) ∧ s = .slice a bs.length c ∧ bs.length ≤ M ∧ Wr w B g bs ∧ Sl w T_uint8 1 a bs.length c (bvs bs) ∧ Tg ow t (fpW B g) ∧ Tg ow (t + 1) (Is a)
theorem WrI.fr {T : Nat → Prop} {w w' : World} {ow ow' : Nat → Nat} {t M M' : Nat} {p s : Value} (h : WrI w ow t M p s) (f : Fro T w ow w' ow') (h1 : T t) (h2 : T (t + 1)) (hM : M ≤ M') : WrI w' ow' t M' p s := by
  obtain ⟨B, g, bs, a, c, hp, hs, hm, hw, hl, t1, t2⟩ := h
  exact ⟨B, g, bs, a, c, hp, hs, by omega, hw.kp f.kp fun b hb hn => hn (by rw [t1 b hb]; exact h1), hl.kp f.kp fun b hb hn => hn (by rw [t2 b hb]; exact h2), t1.fr f h1 hw.lt, t2.fr f h2 hl.lt⟩

/-- A reader, and the document's: over the same bytes, at the same place, with the same fault. -/
def RdI (w : World) (ow : Nat → Nat) (t : Nat) (r d : Value) : Prop :=
  ∃ B g B' g' bs at_ e, r = .pointer (some ⟨B, 0, none⟩) ∧ d = .pointer (some ⟨B', 0, none⟩) ∧ bs.length ≤ 4000 ∧ Re w B g bs at_ e ∧ Rf w B' g' bs at_ e ∧ Tg ow t (fpW B g) ∧ Tg ow (t + 1) (fpW B' g')
theorem RdI.fr {T : Nat → Prop} {w w' : World} {ow ow' : Nat → Nat} {t : Nat} {r d : Value} (h : RdI w ow t r d) (f : Fro T w ow w' ow') (h1 : T t) (h2 : T (t + 1)) : RdI w' ow' t r d := by
  obtain ⟨B, g, B', g', bs, at_, e, hr, hd, hl, hre, hrf, t1, t2⟩ := h
  exact ⟨B, g, B', g', bs, at_, e, hr, hd, hl, hre.kp f.kp fun b hb hn => hn (by rw [t1 b hb]; exact h1), hrf.kp f.kp fun b hb hn => hn (by rw [t2 b hb]; exact h2), t1.fr f h1 hre.lt, t2.fr f h2 hrf.lt⟩

/-- So many cells, all of one value, in blocks of owner 12. -/
def Fl (w : World) (ow : Nat → Nat) (a : Option Addr) (len : Nat) (v : UInt8) : Prop :=
  ∀ i, i < len → ∃ b o, a = some ⟨b, o, none⟩ ∧ w.cell? ⟨b, o + i, none⟩ = some (bv v) ∧ ow b = 12
theorem Fl.fr {T : Nat → Prop} {w w' : World} {ow ow' : Nat → Nat} {a : Option Addr} {len : Nat} {v : UInt8} (h : Fl w ow a len v) (f : Fro T w ow w' ow') (ht : T 12) : Fl w' ow' a len v := by
  intro i hi
  obtain ⟨b, o, ha, hc, ho⟩ := h i hi
  have hlt : b < w.heap.size := cell_lt (a := ⟨b, o + i, none⟩) hc
  exact ⟨b, o, ha, f.kp.cell hc (fun hn => hn (by dsimp only; rw [ho]; exact ht)), by rw [f.ag b hlt (by rw [ho]; exact ht), ho]⟩

structure EntL where
  a : Option Addr
  l : Nat
  c : Nat
  a' : Option Addr
  c' : Nat
def mkU (k : Nat) : UInt8 := UInt8.ofNat (7 * k + 1)
/-- The book: bytes that were handed out, each full of its own mark, and longer by one. -/
def BkI (w : World) (ow : Nat → Nat) (n : Nat) (l m : Value) : Prop :=
  ∃ la lc ma mc, ∃ E : List EntL, l = .slice la E.length lc ∧ m = .slice ma E.length mc ∧ E.length ≤ n ∧
    Sl w T_s_uint8 1 la E.length lc (E.map fun e => .slice e.a e.l e.c) ∧ Sl w T_s_uint8 1 ma E.length mc (E.map fun e => .slice e.a' (e.l + 1) e.c') ∧ Tg ow 10 (Is la) ∧ Tg ow 11 (Is ma) ∧
    ∀ k (hk : k < E.length), Fl w ow (E[k]).a (E[k]).l (mkU k) ∧ Fl w ow (E[k]).a' ((E[k]).l + 1) (mkU k) ∧ (E[k]).l ≤ 100000
theorem BkI.fr {T : Nat → Prop} {w w' : World} {ow ow' : Nat → Nat} {n n' : Nat} {l m : Value} (h : BkI w ow n l m) (f : Fro T w ow w' ow') (h1 : T 10) (h2 : T 11) (h3 : T 12) (hn : n ≤ n') : BkI w' ow' n' l m := by
  obtain ⟨la, lc, ma, mc, E, hl, hm, hn', sl, sm, t1, t2, hE⟩ := h
  exact ⟨la, lc, ma, mc, E, hl, hm, by omega, sl.kp f.kp fun b hb hn => hn (by rw [t1 b hb]; exact h1), sm.kp f.kp fun b hb hn => hn (by rw [t2 b hb]; exact h2), t1.fr f h1 sl.lt, t2.fr f h2 sm.lt,
    fun k hk => ⟨(hE k hk).1.fr f h3, (hE k hk).2.1.fr f h3, (hE k hk).2.2⟩⟩

theorem er_sl : ElemRow Tryd.prog T_s_s_uint8 T_s_uint8 (.slice none 0 0) 1 24 := elemRow (by kernel_rfl) (by kernel_rfl) rfl

theorem holds_c {w : World} {ow : Nat → Nat} {tb n : Nat} {cs : Array Value} {T : TypeId} {l m : Value} {R : Ending → World → Prop} (hblk : Blk w tb cs T) (h8 : cs[8]? = some l) (h9 : cs[9]? = some m) (hB : BkI w ow n l m) (hn : n ≤ 1000)
    (h : ∀ w', Kp no w w' → R (.returned (.bool true)) w') : GoC Tryd.prog F_law02_Book_holds #[.pointer (some (Addr.add ⟨tb, 0, none⟩ 8))] w R := by
  rw [add_at]
  refine S_law02_Book_holds ?_
  unfold W_law02_Book_holds
  obtain ⟨la, lc, ma, mc, E, rfl, rfl, hnE, sl, sm, t1, t2, hE⟩ := hB
  refine loopN (fun s w' => Kp no w w' ∧ ∃ k : Nat, s.1 = (k : Int)) (fun s _ => E.length - s.1.toNat) ⟨Kp.refl _ _, 0, rfl⟩ ?_
  rintro ⟨k0, u⟩ w1 ⟨k1, k, hk⟩ _
  dsimp only at hk ⊢
  subst hk
  have c8 : ∀ w', Kp no w w' → w'.cell? ⟨tb, 0 + 8, none⟩ = some (.slice la E.length lc) := fun w' kk => by rw [(kk.blk hblk id).cell]; exact h8
  have c9 : ∀ w', Kp no w w' → w'.cell? (Addr.add ⟨tb, 0 + 8, none⟩ 1) = some (.slice ma E.length mc) := fun w' kk => by rw [add_at, (kk.blk hblk id).cell]; exact h9
  refine ⟨la, E.length, lc, c8 w1 k1, cond_d (fun hlt => ?_) (fun hge => h _ k1)⟩
  have hkE : k < E.length := by omega
  obtain ⟨f1, f2, hel⟩ := hE k hkE
  have mE : (E.map fun e => Value.slice e.a e.l e.c)[k]? = some (.slice (E[k]).a (E[k]).l (E[k]).c) := by simp [hkE]
  have mE' : (E.map fun e => Value.slice e.a' (e.l + 1) e.c')[k]? = some (.slice (E[k]).a' ((E[k]).l + 1) (E[k]).c') := by simp [hkE]
  obtain ⟨bl, ol, hla, cl⟩ := sl.rd k _ mE
  obtain ⟨bm, om, hma, cm⟩ := sm.rd k _ mE'
  refine loopN (fun s w' => Kp no w w' ∧ ∃ i : Nat, s.1 = (i : Int)) (fun s _ => (E[k]).l + 1 - s.1.toNat) ⟨k1, 0, rfl⟩ ?_
  rintro ⟨i0, u⟩ w2 ⟨k2, i, hi⟩ _
  dsimp only at hi ⊢
  subst hi
  have dl : ∀ w', Kp no w w' → w'.cell? ((⟨bl, ol, none⟩ : Addr).add (Int.toNat (k : Int))) = some (.slice (E[k]).a (E[k]).l (E[k]).c) := fun w' kk => by rw [Int.toNat_natCast, add_at]; exact kk.cell cl id
  have dm : ∀ w', Kp no w w' → w'.cell? ((⟨bm, om, none⟩ : Addr).add (Int.toNat (k : Int))) = some (.slice (E[k]).a' ((E[k]).l + 1) (E[k]).c') := fun w' kk => by rw [Int.toNat_natCast, add_at]; exact kk.cell cm id
  refine ⟨ma, E.length, mc, c9 w2 k2, by omega, hlt, _, hma, (E[k]).a', (E[k]).l + 1, (E[k]).c', dm w2 k2, cond_d (fun hlt2 => ?_) (fun hge2 => ?_)⟩
  · have hwi : IntKind.wrap .i64 ((i : Int) + 1) = ((i + 1 : Nat) : Int) := by rw [wrap_i64 (by omega) (by omega)]; omega
    rw [hwi]
    have next : ∀ w', Kp no w w' → (Kp no w w' ∧ ∃ j : Nat, ((i + 1 : Nat) : Int) = (j : Int)) ∧ (E[k]).l + 1 - ((i + 1 : Nat) : Int).toNat < (E[k]).l + 1 - (i : Int).toNat := fun w' kk => ⟨⟨kk, i + 1, rfl⟩, by simp only [Int.toNat_natCast]; omega⟩
    refine ⟨fun w' => Kp no w w', k2.trans0 (Kp.drew w2 1), ?_⟩
    refine ⟨ma, E.length, mc, fun w' kk => c9 w' kk, by omega, hlt, _, hma, (E[k]).a', (E[k]).l + 1, (E[k]).c', fun w' kk => dm w' kk, ?_⟩
    obtain ⟨b, o, ha, hc, _⟩ := f2 i (by omega)
    refine ⟨by omega, by omega, _, ha, ((mkU k).toNat : Int), fun w' kk => by rw [Int.toNat_natCast, add_at]; exact kk.cell hc id, ?_⟩
    have kd : Kp no w w2.drew := k2.trans0 (Kp.drew w2 1)
    refine mark_c (by omega) ⟨_, rfl, kd, cond_f ?_ ?_⟩
    · unfold mkU; simp
    refine ⟨la, E.length, lc, fun w' kk => c8 w' kk, by omega, hlt, _, hla, (E[k]).a, (E[k]).l, (E[k]).c, fun w' kk => dl w' kk, cond_d (fun hlt3 => ?_) (fun hge3 => next _ kd)⟩
    refine ⟨la, E.length, lc, fun w' kk => c8 w' kk, by omega, hlt, _, hla, (E[k]).a, (E[k]).l, (E[k]).c, fun w' kk => dl w' kk, ?_⟩
    obtain ⟨b, o, ha, hc, _⟩ := f1 i (by omega)
    refine ⟨by omega, by omega, _, ha, ((mkU k).toNat : Int), fun w' kk => by rw [Int.toNat_natCast, add_at]; exact kk.cell hc id, ?_⟩
    refine mark_c (by omega) ⟨_, rfl, kd, cond_f ?_ (next _ kd)⟩
    unfold mkU
    simp
  · have hwk : IntKind.wrap .i64 ((k : Int) + 1) = ((k + 1 : Nat) : Int) := by rw [wrap_i64 (by omega) (by omega)]; omega
    rw [hwk]
    exact ⟨⟨k2, k + 1, rfl⟩, by simp only [Int.toNat_natCast]; omega⟩
end Go.Proofs.YtplfoedgekdjgaaDoor
