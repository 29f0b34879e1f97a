/- Several texts as one. Conditions: none. -/
import Derived.Test.YtnkdonpammdldaaDoorP1
/- Owners of blocks; what is handed out, kept apart by its owner; the contracts of the statements' own 'own', 'stay' and 'marked'. Conditions: none. -/
set_option linter.unusedVariables false
set_option linter.unusedSimpArgs false
namespace Go.Proofs.YtnkdonpammdldaaDoor
open Go Go.RowKit

/-- From one world and its owners to a later one: blocks whose owner is in T are kept, and so is their owner. -/
structure Fro (T : Nat → Prop) (w : World) (ow : Nat → Nat) (w' : World) (ow' : Nat → Nat) : Prop where
  kp : Kp (fun k => ¬ T (ow k)) w w'
  ag : ∀ k, k < w.heap.size → T (ow k) → ow' k = ow k
theorem Fro.trans {T : Nat → Prop} {w w1 w2 : World} {ow ow1 ow2 : Nat → Nat} (h : Fro T w ow w1 ow1) (h' : Fro T w1 ow1 w2 ow2) : Fro T w ow w2 ow2 := by
  refine ⟨h.kp.trans h'.kp (fun _ _ h => h) fun k hk hn ht => hn (by rw [h.ag k hk ht]; exact ht), fun k hk ht => ?_⟩
  have h1 := h.ag k hk ht
  rw [h'.ag k (by have := h.kp.size; omega) (by rw [h1]; exact ht), h1]
theorem Fro.mono {T T' : Nat → Prop} {w w' : World} {ow ow' : Nat → Nat} (h : Fro T w ow w' ow') (ht : ∀ t, T' t → T t) : Fro T' w ow w' ow' :=
  ⟨h.kp.mono fun k _ hn ht' => hn (ht _ ht'), fun k hk h1 => h.ag k hk (ht _ h1)⟩
/-- New blocks get an owner. -/
def ext (ow : Nat → Nat) (n t : Nat) : Nat → Nat := fun k => if k < n then ow k else t
theorem ext_old {ow : Nat → Nat} {n t k : Nat} (h : k < n) : ext ow n t k = ow k := by unfold ext; rw [if_pos h]
theorem ext_new {ow : Nat → Nat} {n t k : Nat} (h : n ≤ k) : ext ow n t k = t := by unfold ext; rw [if_neg (by omega)]
theorem Fro.of_kp {T S : Nat → Prop} {w w' : World} {ow : Nat → Nat} (t : Nat) (k : Kp S w w') (hs : ∀ b, b < w.heap.size → S b → ¬ T (ow b)) : Fro T w ow w' (ext ow w.heap.size t) :=
  ⟨k.mono fun b hb h => hs b hb h, fun b hb _ => ext_old hb⟩
theorem Fro.of_kp0 {T : Nat → Prop} {w w' : World} {ow : Nat → Nat} (t : Nat) (k : Kp no w w') : Fro T w ow w' (ext ow w.heap.size t) := Fro.of_kp t k fun _ _ h => h.elim
/-- Nothing new is owned. -/
theorem Fro.of_kp' {T S : Nat → Prop} {w w' : World} {ow : Nat → Nat} (k : Kp S w w') (hs : ∀ b, b < w.heap.size → S b → ¬ T (ow b)) : Fro T w ow w' ow :=
  ⟨k.mono fun b hb h => hs b hb h, fun b hb _ => rfl⟩

def Tg (ow : Nat → Nat) (t : Nat) (F : Nat → Prop) : Prop := ∀ k, F k → ow k = t
theorem Tg.fr {T F : Nat → Prop} {w w' : World} {ow ow' : Nat → Nat} {t : Nat} (h : Tg ow t F) (f : Fro T w ow w' ow') (ht : T t) (hlt : ∀ k, F k → k < w.heap.size) : Tg ow' t F := fun k hk => by
  have := h k hk
  rw [f.ag k (hlt k hk) (by rw [this]; exact ht), this]
/-- The caller's blocks have owner 0, and are as they were. -/
structure Old (w0 w : World) (ow : Nat → Nat) : Prop where
  kp : Kp no w0 w
  z : ∀ k, k < w0.heap.size → ow k = 0
theorem Old.fr {T : Nat → Prop} {w0 w w' : World} {ow ow' : Nat → Nat} (h : Old w0 w ow) (f : Fro T w ow w' ow') (ht : T 0) : Old w0 w' ow' := by
  refine ⟨h.kp.trans f.kp (fun _ _ h => h) fun k hk hn => (hn (by rw [h.z k hk]; exact ht)).elim, fun k hk => ?_⟩
  have := h.z k hk
  rw [f.ag k (by have := h.kp.size; omega) (by rw [this]; exact ht), this]

open Classical in
/-- The blocks of F get an owner. -/
noncomputable def tag (F : Nat → Prop) (t : Nat) (ow : Nat → Nat) : Nat → Nat := fun k => if F k then t else ow k
theorem tag_in {F : Nat → Prop} {t : Nat} {ow : Nat → Nat} {k : Nat} (h : F k) : tag F t ow k = t := by unfold tag; rw [if_pos h]
theorem tag_out {F : Nat → Prop} {t : Nat} {ow : Nat → Nat} {k : Nat} (h : ¬ F k) : tag F t ow k = ow k := by unfold tag; rw [if_neg h]

/-- An owned slice and its owner. -/
structure SlT (w : World) (ow : Nat → Nat) (e : TypeId) (s : Nat) (a : Option Addr) (l c : Nat) (xs : List Value) (t : Nat) : Prop where
  sl : Sl w e s a l c xs
  tg : Tg ow t (Is a)
section
variable {T : Nat → Prop} {w w' : World} {ow ow' : Nat → Nat}
theorem SlT.fr {e : TypeId} {s : Nat} {a : Option Addr} {l c : Nat} {xs : List Value} {t : Nat} (h : SlT w ow e s a l c xs t) (f : Fro T w ow w' ow') (ht : T t) : SlT w' ow' e s a l c xs t :=
  ⟨h.sl.kp f.kp fun b hb hn => hn (by rw [h.tg b hb]; exact ht), h.tg.fr f ht h.sl.lt⟩
/-- A page's lists and their owners. -/
structure OwT (w : World) (ow : Nat → Nat) (p : PgV) (cs : List CL) (gs : List GL) (t u : Nat) : Prop where
  own : p.Own w cs gs
  tc : Tg ow t (Is p.ca)
  tg : Tg ow u (Is p.ga)
theorem OwT.fr {p : PgV} {cs : List CL} {gs : List GL} {t u : Nat} (h : OwT w ow p cs gs t u) (f : Fro T w ow w' ow') (ht : T t) (hu : T u) : OwT w' ow' p cs gs t u :=
  ⟨h.own.kp f.kp (fun b hb hn => hn (by rw [h.tc b hb]; exact ht)) (fun b hb hn => hn (by rw [h.tg b hb]; exact hu)), h.tc.fr f ht h.own.c.lt, h.tg.fr f hu h.own.g.lt⟩
end

structure BE where
  a : Option Addr
  B : List UInt8
  z : ByteArray
structure PE where
  p : PgV
  q : PgV
  cs : List CL
  gs : List GL
def beV (e : BE) : Value := .slice e.a 1024 1024
def zV (e : BE) : Value := .string e.z
def ppV (e : PE) : List Value := e.p.cs.toList
def pqV (e : PE) : List Value := e.q.cs.toList
theorem ppV_len (e : PE) : (ppV e).length = 4 := rfl
theorem pqV_len (e : PE) : (pqV e).length = 4 := rfl

/-- Where the four lists lie. -/
structure LA where
  ba : Option Addr
  bc : Nat
  sa : Option Addr
  sc : Nat
  pa : Option Addr
  pc : Nat
  ra : Option Addr
  rc : Nat
def LA.cs (A : LA) (n m : Nat) : Array Value := #[.slice A.ba n A.bc, .slice A.sa n A.sc, .slice A.pa m A.pc, .slice A.ra m A.rc]
def EB (w : World) (ow : Nat → Nat) (E : List BE) : Prop := ∀ k (h : k < E.length), SlT w ow T_uint8 1 (E[k]).a 1024 1024 (bvs (E[k]).B) (100 + k) ∧ (E[k]).z.toList = (E[k]).B
def EP (w : World) (ow : Nat → Nat) (Q : List PE) : Prop := ∀ k (h : k < Q.length), OwT w ow (Q[k]).p (Q[k]).cs (Q[k]).gs (1000 + 2 * k) (1001 + 2 * k)
def EW (w : World) (ow : Nat → Nat) (Q : List PE) : Prop := ∀ k (h : k < Q.length), OwT w ow (Q[k]).q (Q[k]).cs (Q[k]).gs 9 9 ∧ (Q[k]).p.num = (Q[k]).q.num ∧ (Q[k]).p.lsn = (Q[k]).q.lsn
/-- What was handed out. -/
structure LsI (w : World) (ow : Nat → Nat) (lb : Nat) (A : LA) (E : List BE) (Q : List PE) : Prop where
  b : Blk w lb (A.cs E.length Q.length) T_quotalaw07_Lists
  bt : ow lb = 2
  l3 : SlT w ow T_s_uint8 1 A.ba E.length A.bc (E.map beV) 3
  l4 : SlT w ow T_string 1 A.sa E.length A.sc (E.map zV) 4
  l5 : SlT w ow T_page_Page 4 A.pa Q.length A.pc (flatV ppV Q) 5
  l6 : SlT w ow T_quotaref07_Page 4 A.ra Q.length A.rc (flatV pqV Q) 6
  e : EB w ow E
  p : EP w ow Q
  q : EW w ow Q
  en : E.length ≤ 100
  qn : Q.length ≤ 200
  sm : ∀ e ∈ Q, e.cs.length ≤ 84 ∧ e.gs.length ≤ 84

section
variable {T : Nat → Prop} {w w' : World} {ow ow' : Nat → Nat}
theorem EB.fr {E : List BE} (h : EB w ow E) (f : Fro T w ow w' ow') (ht : ∀ k, k < E.length → T (100 + k)) : EB w' ow' E := fun k hk => ⟨(h k hk).1.fr f (ht k hk), (h k hk).2⟩
theorem EP.fr {Q : List PE} (h : EP w ow Q) (f : Fro T w ow w' ow') (ht : ∀ k, k < 2 * Q.length → T (1000 + k)) : EP w' ow' Q := fun k hk => (h k hk).fr f (ht _ (by omega)) (by have := ht (2 * k + 1) (by omega); rwa [show 1000 + (2 * k + 1) = 1001 + 2 * k by omega] at this)
theorem EW.fr {Q : List PE} (h : EW w ow Q) (f : Fro T w ow w' ow') (ht : T 9) : EW w' ow' Q := fun k hk => ⟨(h k hk).1.fr f ht ht, (h k hk).2⟩
theorem blk_fr {b : Nat} {cs : Array Value} {X : TypeId} {t : Nat} (h : Blk w b cs X) (ht : ow b = t) (f : Fro T w ow w' ow') (hT : T t) : Blk w' b cs X ∧ ow' b = t :=
  ⟨f.kp.blk h fun hn => hn (by rw [ht]; exact hT), by rw [f.ag b h.lt (by rw [ht]; exact hT), ht]⟩
theorem LsI.fr {lb : Nat} {A : LA} {E : List BE} {Q : List PE} (h : LsI w ow lb A E Q) (f : Fro T w ow w' ow') (h2 : T 2) (h3 : T 3) (h4 : T 4) (h5 : T 5) (h6 : T 6) (h9 : T 9) (he : ∀ k, k < E.length → T (100 + k)) (hq : ∀ k, k < 2 * Q.length → T (1000 + k)) : LsI w' ow' lb A E Q :=
  ⟨(blk_fr h.b h.bt f h2).1, (blk_fr h.b h.bt f h2).2, h.l3.fr f h3, h.l4.fr f h4, h.l5.fr f h5, h.l6.fr f h6, h.e.fr f he, h.p.fr f hq, h.q.fr f h9, h.en, h.qn, h.sm⟩
theorem LsI.frA {lb : Nat} {A : LA} {E : List BE} {Q : List PE} (h : LsI w ow lb A E Q) (f : Fro T w ow w' ow') (hT : ∀ t, (t = 2 ∨ t = 3 ∨ t = 4 ∨ t = 5 ∨ t = 6 ∨ t = 9 ∨ 100 ≤ t) → T t) : LsI w' ow' lb A E Q :=
  h.fr f (hT _ (by omega)) (hT _ (by omega)) (hT _ (by omega)) (hT _ (by omega)) (hT _ (by omega)) (hT _ (by omega)) (fun k _ => hT _ (by omega)) (fun k _ => hT _ (by omega))
end

theorem own_c {w : World} {p : PgV} {cs : List CL} {gs : List GL} {R : Ending → World → Prop} (hp : p.In w cs gs) (hcb : p.cl * 40 ≤ 140737488355328) (hgb : p.gl * 16 ≤ 140737488355328)
    (h : ∀ (q : PgV) w', q.num = p.num → q.lsn = p.lsn → q.Own w' cs gs → Kp no w w' → Fresh w q.ca → Fresh w q.ga → R (.returned (.agg q.cs)) w') : GoC Tryd.prog F_law07_own #[.agg p.cs] w R := by
  refine S_law07_own ?_
  unfold W_law07_own
  have hcl := hp.cl
  have hgl := hp.gl
  refine AlF.intro fun b1 w1 hb1e hb1 k1 s1 => AlF.intro fun b2 w2 hb2e hb2 k2 s2 => ?_
  have hbp : Blk w2 b1 p.cs T_page_Page := k2.blk (show Blk w1 b1 p.cs T_page_Page from hb1) id
  have k02 := k1.trans0 k2
  refine ⟨_, _, _, _, _, _, _, _, ⟨pc0 hbp, pc1 hbp, pc2 hbp, pc3 hbp, trivial⟩, ?_⟩
  refine back_c (p := p) fun w3 k3 => ⟨_, _, _, _, _, _, _, _, rfl, ?_⟩
  refine AlF.intro fun b3 w4 hb3e hb3 k4 s4 => st4 hb3 rfl fun w8 hb8 k8 s8 => ?_
  have k38 : Kp no w3 w8 := kp_blk k4 (by omega) k8
  have k28 := k3.trans0 k38
  have k08 := k02.trans0 k28
  have hbp8 := k28.blk hbp id
  have hp8 := hp.kp0 k08
  have sz3 := k3.size
  refine ⟨_, _, _, pc2 hbp8, append_new er_ctr hp8.c.rd (by rw [fC_len, hcl]) (fun h0 => by have := hp8.c.none h0; subst this; simpa using hcl.symm) (fC_one cs) (by have := hp.cb; omega) (by omega) fun a8 c8 w9 hs9 k9 f9 _ => ⟨_, _, _, rfl, ?_⟩⟩
  refine StF.at (add_at _ _ _) (k9.blk hb8 id) (by simp) fun w10 hb10 k10 s10 => ?_
  have hb10' : Blk w10 b3 #[.int .i64 p.num, .int .i64 p.lsn, .slice a8 p.cl c8, .slice p.ga p.gl p.gc] T_quotaref07_Page := hb10
  have hbp10 : Blk w10 b1 p.cs T_page_Page := k10.blk (k9.blk hbp8 id) (by omega)
  have k810 : Kp (fun k => k = b3) w8 w10 := k9.of_no.trans0 k10
  have k010 : Kp no w w10 := kp_blk k08 (by omega) k810
  have hp10 := hp.kp0 k010
  refine ⟨_, _, _, pc3 hbp10, append_new er_grp hp10.g.rd (by rw [fG_len, hgl]) (fun h0 => by have := hp10.g.none h0; subst this; simpa using hgl.symm) (fG_one gs) (by have := hp.gb; omega) (by omega) fun a10 c10 w11 hs11 k11 f11 _ => ⟨_, _, _, rfl, ?_⟩⟩
  refine StF.at (add_at _ _ _) (k11.blk hb10' id) (by simp) fun w12 hb12 k12 s12 => ?_
  have hb12' : Blk w12 b3 (PgV.cs ⟨p.num, p.lsn, a8, p.cl, c8, a10, p.gl, c10⟩) T_quotaref07_Page := hb12
  refine ⟨_, _, _, _, _, _, _, _, ⟨pc0 hb12', pc1 hb12', pc2 hb12', pc3 hb12', trivial⟩, ?_⟩
  have k1012 : Kp (fun k => k = b3) w10 w12 := k11.of_no.trans0 k12
  have k812 := k810.trans0 k1012
  have hb212 : Blk w12 b2 #[.int .i64 0, .int .i64 0, .slice none 0 0, .slice none 0 0] T_quotaref07_Page := k812.blk (k28.blk hb2 id) (by omega)
  have n8 : ∀ j, Is a8 j → w8.heap.size ≤ j := f9
  have n10 : ∀ j, Is a10 j → w10.heap.size ≤ j := f11
  have sz9 := k9.size
  have sz8 := k08.size
  refine ret4 (K := fun q w' => R (.returned (.agg q)) w') hb212 rfl fun w' _ k' _ => ?_
  refine h ⟨p.num, p.lsn, a8, p.cl, c8, a10, p.gl, c10⟩ w' rfl rfl ⟨?_, hp.cb, ?_, hp.gb⟩ (kp_blk (kp_blk k08 (by omega) k812) (by omega) k') (fun j hj => ?_) (fun j hj => ?_)
  · exact ((hs9.kp k10 fun j hj hh => by have := n8 j hj; omega).kp k1012 fun j hj hh => by have := n8 j hj; omega).kp k' fun j hj hh => by have := n8 j hj; omega
  · exact (hs11.kp k12 fun j hj hh => by have := n10 j hj; omega).kp k' fun j hj hh => by have := n10 j hj; omega
  · have := n8 j hj; omega
  · have := n10 j hj; omega

/-- An element of a list of pages. -/
theorem pgI {α : Type} {f : α → List Value} (hf : ∀ x, (f x).length = 4) {w : World} {a : Option Addr} {L : List α} (h : Rd w a (flatV f L)) {i : Nat} (hi : i < L.length) {l : Nat} (hl : L.length = l) {n : Int} (hn : n = (i : Int)) {p : PgV} (hp : f L[i] = p.cs.toList) {K : Addr → Prop}
    (hk : ∀ b o, a = some ⟨b, o, none⟩ → (∀ q v, p.cs[q]? = some v → w.cell? ⟨b, o + i * 4 + q, none⟩ = some v) → K ⟨b, o, none⟩) : IdxF a n l K := by
  subst hn
  have hne : flatV f L ≠ [] := fun h0 => by have := flatV_len hf L; rw [h0] at this; simp at this; omega
  obtain ⟨b, o, ha, _, hc⟩ := h.addr hne
  refine ⟨by omega, by omega, _, ha, hk b o ha fun q v hv => ?_⟩
  have hq : q < 4 := by have := (Array.getElem?_eq_some_iff.1 hv).1; simpa [PgV.cs] using this
  rw [Nat.add_assoc]
  refine hc _ _ ?_
  rw [flatV_get hf L i hi q hq, hp, Array.getElem?_toList]
  exact hv
theorem pg_cells {w : World} {b o i : Nat} {p : PgV} {n : Int} (hn : n = (i : Int)) (hc : ∀ q v, p.cs[q]? = some v → w.cell? ⟨b, o + i * 4 + q, none⟩ = some v) :
    w.cell? ((⟨b, o, none⟩ : Addr).add (Int.toNat n * 4)) = some (.int .i64 p.num) ∧ w.cell? (Addr.add ((⟨b, o, none⟩ : Addr).add (Int.toNat n * 4)) 1) = some (.int .i64 p.lsn) ∧ w.cell? (Addr.add ((⟨b, o, none⟩ : Addr).add (Int.toNat n * 4)) 2) = some (.slice p.ca p.cl p.cc) ∧ w.cell? (Addr.add ((⟨b, o, none⟩ : Addr).add (Int.toNat n * 4)) 3) = some (.slice p.ga p.gl p.gc) ∧ True := by
  subst hn
  rw [Int.toNat_natCast]
  simp only [add_at]
  exact ⟨hc 0 _ rfl, hc 1 _ rfl, hc 2 _ rfl, hc 3 _ rfl, trivial⟩

theorem stay_c {w : World} {ow : Nat → Nat} {lb : Nat} {A : LA} {E : List BE} {Q : List PE} {R : Ending → World → Prop} (hL : LsI w ow lb A E Q) (h : ∀ w', Kp no w w' → R (.returned (.bool true)) w') : GoC Tryd.prog F_law07_Lists_stay #[.pointer (some ⟨lb, 0, none⟩)] w R := by
  refine S_law07_Lists_stay ?_
  unfold W_law07_Lists_stay
  have en := hL.en
  have qn := hL.qn
  have c0 : ∀ w', Kp no w w' → w'.cell? ⟨lb, 0, none⟩ = some (.slice A.ba E.length A.bc) := fun w' k => (k.blk hL.b id).cell 0
  have c1 : ∀ w', Kp no w w' → w'.cell? (Addr.add ⟨lb, 0, none⟩ 1) = some (.slice A.sa E.length A.sc) := fun w' k => by rw [add_at]; exact (k.blk hL.b id).cell 1
  have c2 : ∀ w', Kp no w w' → w'.cell? (Addr.add ⟨lb, 0, none⟩ 2) = some (.slice A.pa Q.length A.pc) := fun w' k => by rw [add_at]; exact (k.blk hL.b id).cell 2
  have c3 : ∀ w', Kp no w w' → w'.cell? (Addr.add ⟨lb, 0, none⟩ 3) = some (.slice A.ra Q.length A.rc) := fun w' k => by rw [add_at]; exact (k.blk hL.b id).cell 3
  refine loopN (fun s w1 => Kp no w w1 ∧ ∃ k : Nat, s.1 = (k : Int)) (fun s _ => E.length - s.1.toNat) ⟨Kp.refl _ _, 0, rfl⟩ ?_
  rintro ⟨k0, u⟩ w1 ⟨k1, k, hk0⟩ _
  dsimp only at hk0 ⊢
  subst hk0
  refine ⟨_, _, _, c0 w1 k1, cond_d (fun hlt => ?_) (fun hge => ?_)⟩
  · have hk : k < E.length := by omega
    have kd : Kp no w1 w1.drew := Kp.drew w1 1
    obtain ⟨hE, hz⟩ := hL.e k hk
    obtain ⟨b3, o3, ha3, hc3⟩ := hL.l3.sl.rd k (beV E[k]) (by simp [hk])
    obtain ⟨b4, o4, ha4, hc4⟩ := hL.l4.sl.rd k (zV E[k]) (by simp [hk])
    refine ⟨fun w' => Kp no w w', k1.trans0 kd, _, _, _, fun w' kz => c0 w' kz, by omega, hlt, _, ha3, (E[k]).a, 1024, 1024, fun w' kz => by rw [Int.toNat_natCast, add_at]; exact kz.cell hc3 id, ?_⟩
    refine ⟨_, _, _, fun w' kz => c1 w' kz, by omega, hlt, _, ha4, (E[k]).z, fun w' kz => by rw [Int.toNat_natCast, add_at]; exact kz.cell hc4 id, ?_⟩
    have hl := hE.sl.len
    rw [bvs_len] at hl
    have hE' := hE.sl.kp0 (k1.trans0 kd)
    refine convert_bytes (e := T_uint8) (by kernel_rfl) (by kernel_rfl) (by kernel_rfl) hE'.rd hl (sl_some hE' (by omega)) fun z2 hz2 => ⟨z2, rfl, k1.trans0 kd, cond_f (by rw [hz2, hz]; simp) ?_⟩
    have hkw : IntKind.wrap .i64 ((k : Int) + 1) = ((k + 1 : Nat) : Int) := by rw [wrap_i64 (by omega) (by omega)]; omega
    rw [hkw]
    exact ⟨⟨k1.trans0 kd, k + 1, rfl⟩, by simp only [Int.toNat_natCast]; omega⟩
  · refine loopN (fun s w2 => Kp no w w2 ∧ ∃ k : Nat, s.1 = (k : Int)) (fun s _ => Q.length - s.1.toNat) ⟨k1, 0, rfl⟩ ?_
    rintro ⟨k0, u⟩ w3 ⟨k3, k, hk0⟩ _
    dsimp only at hk0 ⊢
    subst hk0
    refine ⟨_, _, _, c2 w3 k3, cond_d (fun hlt => ?_) (fun hge => h w3 k3)⟩
    have hk : k < Q.length := by omega
    have kd : Kp no w3 w3.drew := Kp.drew w3 1
    have hP := hL.p k hk
    obtain ⟨hW, hn, hs⟩ := hL.q k hk
    refine ⟨fun w' => Kp no w w', k3.trans0 kd, _, _, _, fun w' kz => c2 w' kz, ?_⟩
    refine pgI ppV_len hL.l5.sl.rd hk rfl rfl (p := (Q[k]).p) rfl fun b o ha hc => ⟨_, _, _, _, _, _, _, _, fun w' kz => pg_cells rfl fun q v hv => kz.cell (hc q v hv) id, ?_⟩
    refine ⟨_, _, _, fun w' kz => c3 w' kz, ?_⟩
    refine pgI pqV_len hL.l6.sl.rd hk rfl rfl (p := (Q[k]).q) rfl fun b' o' ha' hc' => ⟨_, _, _, _, _, _, _, _, fun w' kz => pg_cells rfl fun q v hv => kz.cell (hc' q v hv) id, ?_⟩
    refine back_c (p := (Q[k]).p) fun w4 k4 => ⟨_, _, _, _, _, _, _, _, rfl, (k3.trans0 kd).trans0 k4, ?_⟩
    have k04 := (k3.trans0 kd).trans0 k4
    refine same_c (p := (Q[k]).p) (q := (Q[k]).q) (hP.own.kp0 k04).to_in (hW.own.kp0 k04).to_in fun w5 k5 => ⟨_, rfl, k04.trans0 k5, cond_f ?_ ?_⟩
    · have e : sameP (Q[k]).p (Q[k]).cs (Q[k]).gs (Q[k]).q (Q[k]).cs (Q[k]).gs = true := decide_eq_true ⟨hn, hs, rfl, rfl⟩
      rw [e]
      rfl
    have hkw : IntKind.wrap .i64 ((k : Int) + 1) = ((k + 1 : Nat) : Int) := by rw [wrap_i64 (by omega) (by omega)]; omega
    rw [hkw]
    exact ⟨⟨k04.trans0 k5, k + 1, rfl⟩, by simp only [Int.toNat_natCast]; omega⟩

/-- Elements that bear a mark, the last ones with 0. -/
def mkCs (i : Int) (n last : Nat) : List CL := (List.range n).map fun k => ⟨i, 0, 0, 0, if n - last ≤ k then 0 else (k : Int)⟩
def mkGs (i : Int) (n last : Nat) : List GL := (List.range n).map fun k => ⟨i, if n - last ≤ k then 0 else (k : Int)⟩
theorem marked_c {w : World} {p : PgV} {i : Nat} {last : Nat} {R : Ending → World → Prop} (hp : p.In w (mkCs (-(i : Int)) p.cl last) (mkGs (-(i : Int)) p.gl last)) (hi : i ≤ 1000000) (hlast : last ≤ 1)
    (h : ∀ w', Kp no w w' → R (.returned (.bool true)) w') : GoC Tryd.prog F_law07_marked #[.agg p.cs, .int .i64 (i : Int), .int .i64 (last : Int)] w R := by
  refine S_law07_marked ?_
  unfold W_law07_marked
  have hcb := hp.cb
  have hgb := hp.gb
  have hcl := hp.cl
  have hgl := hp.gl
  refine AlF.intro fun b1 w1 hb1e hb1 k1 s1 => ?_
  have hb : Blk w1 b1 p.cs T_page_Page := hb1
  have hp1 := hp.kp0 k1
  have ei : IntKind.wrap .i64 (0 - (i : Int)) = -(i : Int) := by rw [wrap_i64 (by omega) (by omega)]; omega
  rw [ei]
  refine loopN (fun s w2 => w2 = w1 ∧ ∃ k : Nat, s.1 = (k : Int)) (fun s _ => p.cl - s.1.toNat) ⟨rfl, 0, rfl⟩ ?_
  rintro ⟨k0, u⟩ w2 ⟨hw2, k, hk0⟩ _
  dsimp only at hk0 ⊢
  subst hk0
  rw [hw2]
  refine ⟨_, _, _, pc2 hb, cond_d (fun hlt => ?_) (fun hge => ?_)⟩
  · have hk : k < p.cl := by omega
    have hkw : IntKind.wrap .i64 ((k : Int) + 1) = ((k + 1 : Nat) : Int) := by rw [wrap_i64 (by omega) (by omega)]; omega
    have hkl : IntKind.wrap .i64 ((p.cl : Int) - (last : Int)) = (p.cl : Int) - (last : Int) := wrap_i64 (by omega) (by omega)
    rw [hkw]
    have he : ∀ hx : k < (mkCs (-(i : Int)) p.cl last).length, (mkCs (-(i : Int)) p.cl last)[k] = ⟨-(i : Int), 0, 0, 0, if p.cl - last ≤ k then 0 else (k : Int)⟩ := fun hx => by simp [mkCs]
    refine ⟨_, _, _, pc2 hb, ?_⟩
    rw [hkl]
    refine cond_d (fun hla => ?_) (fun hla => ?_)
    · refine ⟨_, _, _, pc2 hb, ctrI hp1.c (i := k) (by omega) hcl rfl ?_⟩
      rw [he, if_pos (by omega)]
      exact cond_f (by simp) ⟨⟨rfl, k + 1, rfl⟩, by simp only [Int.toNat_natCast]; omega⟩
    · refine ⟨_, _, _, pc2 hb, ctrI hp1.c (i := k) (by omega) hcl rfl ?_⟩
      rw [he, if_neg (by omega)]
      exact cond_f (by simp) ⟨⟨rfl, k + 1, rfl⟩, by simp only [Int.toNat_natCast]; omega⟩
  · refine loopN (fun s w2 => w2 = w1 ∧ ∃ k : Nat, s.1 = (k : Int)) (fun s _ => p.gl - s.1.toNat) ⟨rfl, 0, rfl⟩ ?_
    rintro ⟨k0, u⟩ w2 ⟨hw2, k, hk0⟩ _
    dsimp only at hk0 ⊢
    subst hk0
    rw [hw2]
    refine ⟨_, _, _, pc3 hb, cond_d (fun hlt => ?_) (fun hge => h w1 k1)⟩
    have hk : k < p.gl := by omega
    have hkw : IntKind.wrap .i64 ((k : Int) + 1) = ((k + 1 : Nat) : Int) := by rw [wrap_i64 (by omega) (by omega)]; omega
    have hkl : IntKind.wrap .i64 ((p.gl : Int) - (last : Int)) = (p.gl : Int) - (last : Int) := wrap_i64 (by omega) (by omega)
    rw [hkw]
    have he : ∀ hx : k < (mkGs (-(i : Int)) p.gl last).length, (mkGs (-(i : Int)) p.gl last)[k] = ⟨-(i : Int), if p.gl - last ≤ k then 0 else (k : Int)⟩ := fun hx => by simp [mkGs]
    refine ⟨_, _, _, pc3 hb, ?_⟩
    rw [hkl]
    refine cond_d (fun hla => ?_) (fun hla => ?_)
    · refine ⟨_, _, _, pc3 hb, grpI hp1.g (i := k) (by omega) hgl rfl ?_⟩
      rw [he, if_pos (by omega)]
      exact cond_f (by simp) ⟨⟨rfl, k + 1, rfl⟩, by simp only [Int.toNat_natCast]; omega⟩
    · refine ⟨_, _, _, pc3 hb, grpI hp1.g (i := k) (by omega) hgl rfl ?_⟩
      rw [he, if_neg (by omega)]
      exact cond_f (by simp) ⟨⟨rfl, k + 1, rfl⟩, by simp only [Int.toNat_natCast]; omega⟩
end Go.Proofs.YtnkdonpammdldaaDoor

/- The contract of the statements' own 'ask'. Conditions: the tables stand. -/
set_option linter.unusedVariables false
set_option linter.unusedSimpArgs false
namespace Go.Proofs.YtnkdonpammdldaaDoor
open Go Go.RowKit

theorem er_sl : ElemRow Tryd.prog T_s_s_uint8 T_s_uint8 (.slice none 0 0) 1 24 := elemRow (by kernel_rfl) (by kernel_rfl) rfl
theorem er_str : ElemRow Tryd.prog T_s_string T_string (.string .empty) 1 16 := elemRow (by kernel_rfl) (by kernel_rfl) rfl
theorem er_pg : ElemRow Tryd.prog T_s_page_Page T_page_Page (.agg #[.int .i64 0, .int .i64 0, .slice none 0 0, .slice none 0 0]) 4 64 := elemRow (by kernel_rfl) (by kernel_rfl) rfl
theorem er_rp : ElemRow Tryd.prog T_s_quotaref07_Page T_quotaref07_Page (.agg #[.int .i64 0, .int .i64 0, .slice none 0 0, .slice none 0 0]) 4 64 := elemRow (by kernel_rfl) (by kernel_rfl) rfl

theorem Fro.new {T : Nat → Prop} {w w' : World} {ow ow' : Nat → Nat} (k : Kp no w w') (h : ∀ b, b < w.heap.size → ow' b = ow b) : Fro T w ow w' ow' := ⟨k.of_no, fun b hb _ => h b hb⟩

section
variable {P : Program}
/-- append to an owned slice, by its owner. -/
theorem app_c {t e ty : TypeId} {z : Value} {s by_ : Nat} (hr : ElemRow P t e z s by_) {w : World} {ow : Nat → Nat} {a : Option Addr} {l c : Nat} {xs : List Value} {u : Nat} (hs : SlT w ow e s a l c xs u)
    {a2 : Option Addr} {m c2 : Nat} {news : List Value} (hn : Rd w a2 news) (hm : news.length = m * s) (h2 : a2 = none → m = 0) (h1 : ∀ v ∈ news, v.oneCell' = true)
    (h63 : l + m ≤ 9223372036854775807) (hb : (l + m) * by_ ≤ 140737488355328) {K : Value → World → Prop}
    (h : ∀ a' c' w', SlT w' (ext ow w.heap.size u) e s a' (l + m) c' (xs ++ news) u → Kp (Is a) w w' → Fro (fun v => v ≠ u) w ow w' (ext ow w.heap.size u) → K (.slice a' (l + m) c') w') :
    RunF P (Builtin.append_ #[t, t] ty #[.slice a l c, .slice a2 m c2]) w K := by
  refine append_own hr hs.sl hn hm h2 h1 h63 hb fun a' c' w' hs' k' hi _ _ => ?_
  refine h a' c' w' ⟨hs', fun j hj => ?_⟩ k' (Fro.of_kp u k' fun b _ hb' hne => hne (hs.tg b hb'))
  by_cases hl : j < w.heap.size
  · rw [ext_old hl]
    rcases hi j hj with hh | hh
    · exact hs.tg j hh
    · omega
  · exact ext_new (by omega)
end

/-- A store into the block of the lists. -/
theorem st_lb {w : World} {ow : Nat → Nat} {lb i : Nat} {ad : Addr} {cs : Array Value} {X : TypeId} {v : Value} {K : World → Prop} (had : ad = ⟨lb, i, none⟩) (hb : Blk w lb cs X) (ht : ow lb = 2) (hi : i < cs.size)
    (h : ∀ w', Blk w' lb (cs.setIfInBounds i v) X → Kp (fun k => k = lb) w w' → Fro (fun u => u ≠ 2) w ow w' ow → K w') : StF w ad v K :=
  StF.at had hb hi fun w' hb' k' _ => h w' hb' k' (Fro.of_kp' k' fun b _ hbb hne => hne (by rw [hbb]; exact ht))

theorem EB.snoc {w : World} {ow : Nat → Nat} {E : List BE} {e : BE} (h : EB w ow E) (hs : SlT w ow T_uint8 1 e.a 1024 1024 (bvs e.B) (100 + E.length)) (hz : e.z.toList = e.B) : EB w ow (E ++ [e]) := by
  intro k hk
  by_cases hl : k < E.length
  · rw [List.getElem_append_left hl]; exact h k hl
  · have hke : k = E.length := by rw [List.length_append] at hk; simp at hk; omega
    subst hke
    rw [List.getElem_append_right (Nat.le_refl _)]
    simp only [Nat.sub_self, List.getElem_cons_zero]
    exact ⟨hs, hz⟩
theorem EP.snoc2 {w : World} {ow : Nat → Nat} {Q : List PE} {e f : PE} (h : EP w ow Q) (he : OwT w ow e.p e.cs e.gs (1000 + 2 * Q.length) (1001 + 2 * Q.length)) (hf : OwT w ow f.p f.cs f.gs (1002 + 2 * Q.length) (1003 + 2 * Q.length)) : EP w ow (Q ++ [e, f]) := by
  intro k hk
  by_cases hl : k < Q.length
  · rw [List.getElem_append_left hl]; exact h k hl
  · rw [List.length_append] at hk
    simp only [List.length_cons, List.length_nil] at hk
    rw [List.getElem_append_right (by omega)]
    have : k = Q.length ∨ k = Q.length + 1 := by omega
    rcases this with rfl | rfl
    · simp only [Nat.sub_self, List.getElem_cons_zero]; exact he
    · simp only [Nat.add_sub_cancel_left, List.getElem_cons_succ, List.getElem_cons_zero]
      have e1 : 1000 + 2 * (Q.length + 1) = 1002 + 2 * Q.length := by omega
      have e2 : 1001 + 2 * (Q.length + 1) = 1003 + 2 * Q.length := by omega
      rw [e1, e2]
      exact hf
theorem EW.snoc2 {w : World} {ow : Nat → Nat} {Q : List PE} {e f : PE} (h : EW w ow Q) (he : OwT w ow e.q e.cs e.gs 9 9 ∧ e.p.num = e.q.num ∧ e.p.lsn = e.q.lsn) (hf : OwT w ow f.q f.cs f.gs 9 9 ∧ f.p.num = f.q.num ∧ f.p.lsn = f.q.lsn) : EW w ow (Q ++ [e, f]) := by
  intro k hk
  by_cases hl : k < Q.length
  · rw [List.getElem_append_left hl]; exact h k hl
  · rw [List.length_append] at hk
    simp only [List.length_cons, List.length_nil] at hk
    rw [List.getElem_append_right (by omega)]
    have : k = Q.length ∨ k = Q.length + 1 := by omega
    rcases this with rfl | rfl
    · simp only [Nat.sub_self, List.getElem_cons_zero]; exact he
    · simp only [Nat.add_sub_cancel_left, List.getElem_cons_succ, List.getElem_cons_zero]; exact hf

set_option maxRecDepth 100000 in
theorem ask_c {w0 w : World} {ow : Nat → Nat} {lb : Nat} {A : LA} {E : List BE} {Q : List PE} {q : PgV} {cs : List CL} {gs : List GL} {pa : Option Addr} {PB : List UInt8} {R : Ending → World → Prop} (hnib : Nib w0) (hz : Szs w0) (hO : Old w0 w ow) (hL : LsI w ow lb A E Q) (hq : OwT w ow q cs gs 8 8)
    (hR : Right q.num q.lsn cs gs) (hco : ∀ x ∈ cs, x.Ok) (hgo : ∀ x ∈ gs, x.Ok) (hpl : SlT w ow T_uint8 1 pa 1024 1024 (bvs PB) 7) (hen : E.length + 2 ≤ 100) (hqn : Q.length + 4 ≤ 200)
    (h : ∀ ow' A' E' Q' PB' w', LsI w' ow' lb A' E' Q' → E'.length = E.length + 2 → Q'.length = Q.length + 4 → SlT w' ow' T_uint8 1 pa 1024 1024 (bvs PB') 7 → Fro (fun t => t = 0 ∨ t = 1 ∨ t = 8) w ow w' ow' → R (.returned (.bool true)) w') :
    GoC Tryd.prog F_law07_Lists_ask #[.pointer (some ⟨lb, 0, none⟩), .agg q.cs, .slice pa 1024 1024] w R := by
  refine S_law07_Lists_ask ?_
  unfold W_law07_Lists_ask
  obtain ⟨hBl, hBc, hBg, hBs, hBd, _⟩ := right_back hR hco hgo
  have hr0 := ref_of_right hR
  have hc31 := hR.c
  have hg84 := hR.g
  generalize hX : encO q.num q.lsn cs gs = X at *
  have hql := hq.own.cl
  have hqg := hq.own.gl
  refine AlF.intro fun b1 w1 hb1e hb1 k1 s1 => ?_
  have hbq : Blk w1 b1 q.cs T_page_Page := hb1
  refine ⟨_, _, _, _, _, _, _, _, ⟨pc0 hbq, pc1 hbq, pc2 hbq, pc3 hbq, trivial⟩, ?_⟩
  refine own_c (p := q) (hq.own.kp0 k1).to_in (by omega) (by omega) fun v w2 hv1 hv2 hvo k2 fv1 fv2 => ⟨_, _, _, _, _, _, _, _, rfl, ?_⟩
  refine AlF.intro fun b2 w3 hb2e hb2 k3 s3 => st4 hb2 rfl fun w7 hb27 k7 s7 => ?_
  have hbv : Blk w7 b2 v.cs T_quotaref07_Page := hb27
  have k27 : Kp no w2 w7 := kp_blk k3 (by omega) k7
  have k17 := k2.trans0 k27
  have k07 := k1.trans0 k17
  have hbq7 := k17.blk hbq id
  have sz1 := k1.size
  have sz2 := k2.size
  -- the owners by now
  obtain ⟨ow7, hf7, ht7, hv7⟩ : ∃ ow7, Fro (fun _ => True) w ow w7 ow7 ∧ (∀ k, w.heap.size ≤ k → ¬ Is v.ca k → ¬ Is v.ga k → ow7 k = 1) ∧ OwT w7 ow7 v cs gs 9 9 := by
    refine ⟨tag (fun k => Is v.ca k ∨ Is v.ga k) 9 (ext ow w.heap.size 1), Fro.new k07 fun b hb => ?_, fun k hk h1 h2 => ?_, hvo.kp0 k27, fun k hk => tag_in (.inl hk), fun k hk => tag_in (.inr hk)⟩
    · rw [tag_out, ext_old hb]
      rintro (hh | hh)
      · have := fv1 b hh; omega
      · have := fv2 b hh; omega
    · rw [tag_out (by rintro (hh | hh); exact h1 hh; exact h2 hh), ext_new hk]
  have hb1t : ow7 b1 = 1 := ht7 b1 (by omega) (fun hh => by have := fv1 _ hh; omega) (fun hh => by have := fv2 _ hh; omega)
  have hb2t : ow7 b2 = 1 := ht7 b2 (by omega) (fun hh => by have := hvo.c.lt _ hh; omega) (fun hh => by have := hvo.g.lt _ hh; omega)
  have hL7 := hL.frA hf7 fun _ _ => trivial
  have hq7 := hq.fr hf7 trivial trivial
  have hpl7 := hpl.fr hf7 trivial
  have hO7 := hO.fr hf7 trivial
  refine loopN (fun s w' => ∃ (r : Nat) (ow' : Nat → Nat) (A' : LA) (E' : List BE) (Q' : List PE) (PB' : List UInt8), s.1 = (r : Int) ∧ r ≤ 2 ∧ LsI w' ow' lb A' E' Q' ∧ E'.length = E.length + r ∧ Q'.length = Q.length + 2 * r ∧ SlT w' ow' T_uint8 1 pa 1024 1024 (bvs PB') 7 ∧ Fro (fun t => t = 0 ∨ t = 1 ∨ t = 8 ∨ t = 9) w7 ow7 w' ow') (fun s _ => 2 - s.1.toNat)
    ⟨0, ow7, A, E, Q, PB, rfl, by omega, hL7, rfl, rfl, hpl7, ⟨(Kp.refl _ _), fun _ _ _ => rfl⟩⟩ ?_
  rintro ⟨r0, u⟩ w8 ⟨r, ow8, A8, E8, Q8, PB8, hr0', hr2, hL8, hE8, hQ8, hpl8, hf8⟩ _
  dsimp only at hr0' ⊢
  subst hr0'
  refine cond_d (fun hlt => ?_) (fun hge => ?_)
  rotate_left
  · have hre : r = 2 := by omega
    subst hre
    exact h ow8 A8 E8 Q8 PB8 w8 hL8 hE8 hQ8 hpl8 ((hf7.mono fun _ _ => trivial).trans (hf8.mono fun t ht => by rcases ht with h | h | h <;> simp [h]))
  have hrw : IntKind.wrap .i64 ((r : Int) + 1) = ((r + 1 : Nat) : Int) := by rw [wrap_i64 (by omega) (by omega)]; omega
  rw [hrw]
  obtain ⟨hbq8, hb1t8⟩ := blk_fr hbq7 hb1t hf8 (by simp)
  obtain ⟨hbv8, hb2t8⟩ := blk_fr hbv hb2t hf8 (by simp)
  have hq8 := hq7.fr hf8 (by simp) (by simp)
  have hv8 := hv7.fr hf8 (by simp) (by simp)
  have hO8 := hO7.fr hf8 (by simp)
  refine ⟨_, _, _, _, _, _, _, _, ⟨pc0 hbq8, pc1 hbq8, pc2 hbq8, pc3 hbq8, trivial⟩, ?_⟩
  refine encode_c (p := q) (hnib.kp0 hO8.kp) (hz.kp0 hO8.kp) hq8.own.to_in (fun hne => absurd hr0 hne) fun _ a10 w9 hs10 k9 f10 => ⟨_, _, _, _, rfl, ?_⟩
  rw [encB_eq hr0, hX] at hs10
  refine ⟨fun _ w' => w' = w9, cond_f rfl (cond_f (by simp) rfl), ?_⟩
  rintro u8 w10 hw10 _
  rw [hw10]
  have hpl9 := hpl8.sl.kp0 k9
  have lt10 := hs10.lt
  have ltp := hpl8.sl.lt
  have nap : ∀ j, Is a10 j → ¬ Is pa j := fun j hj hh => by have := f10 j hj; have := ltp j hh; omega
  have hPl : PB8.length = 1024 := by have := hpl8.sl.len; rwa [bvs_len] at this
  refine ⟨fun _ w' => Sl w' T_uint8 1 pa 1024 1024 (bvs X) ∧ Kp (Is pa) w9 w', ?_, ?_⟩
  · refine loopN (fun s w' => ∃ k : Nat, s.1 = (k : Int) ∧ k ≤ 1024 ∧ Sl w' T_uint8 1 pa 1024 1024 (bvs (X.take k ++ PB8.drop k)) ∧ Kp (Is pa) w9 w') (fun s _ => 1024 - s.1.toNat) ⟨0, rfl, by omega, by simpa using hpl9, Kp.refl _ _⟩ ?_
    rintro ⟨k0, u⟩ w11 ⟨k, hk0, hk, hs11, k11⟩ _
    dsimp only at hk0 ⊢
    subst hk0
    refine cond_d (fun hlt2 => ?_) (fun hge2 => ?_)
    · have hk1 : k < 1024 := by omega
      have hkw : IntKind.wrap .i64 ((k : Int) + 1) = ((k + 1 : Nat) : Int) := by rw [wrap_i64 (by omega) (by omega)]; omega
      rw [hkw]
      refine idxB (hs10.kp k11 nap).rd hBl (i := k) hk1 rfl ?_
      obtain ⟨b, cur, ha, _⟩ := hs11.addr (by omega)
      refine ⟨by omega, by omega, _, ha, ?_⟩
      dsimp only
      rw [Int.toNat_natCast, add_at]
      have hv : Value.int .u8 ((byteN X k : Nat) : Int) = bv X[k] := by rw [byteN_get (by omega)]; rfl
      rw [hv]
      refine hs11.put (i := k) hk1 ha fun w12 hs12 k12 _ => ⟨⟨k + 1, rfl, by omega, ?_, k11.trans0 k12⟩, by simp only [Int.toNat_natCast]; omega⟩
      have e : (bvs (X.take k ++ PB8.drop k)).set k (bv X[k]) = bvs (X.take (k + 1) ++ PB8.drop (k + 1)) := by
        rw [bvs, bvs, ← List.map_set, List.set_append_right _ _ (by simp; omega)]
        have e1 : k - (X.take k).length = 0 := by simp; omega
        rw [e1, List.drop_eq_getElem_cons (by omega : k < PB8.length), List.set_cons_zero, take_snoc_get X k (by omega), List.append_assoc]
        rfl
      rw [← e]
      exact hs12
    · have hke : k = 1024 := by omega
      subst hke
      rw [List.take_of_length_le (by omega), List.drop_of_length_le (by omega), List.append_nil] at hs11
      exact ⟨hs11, k11⟩
  rintro u12 w13 ⟨hs13, k13⟩ _
  have k813 : Kp (Is pa) w8 w13 := k9.of_no.trans0 k13
  have nb : ∀ {b t : Nat}, ow8 b = t → t ≠ 7 → ¬ Is pa b := fun hb hne hh => hne (by rw [← hb]; exact hpl8.tg _ hh)
  have hbq13 := k813.blk hbq8 (nb hb1t8 (by omega))
  have kO13 : Kp no w0 w13 := hO8.kp.trans k813 (fun _ _ h => h) fun j hj hh => by have := hpl8.tg j hh; have := hO8.z j hj; omega
  refine ⟨_, pc0 hbq13, ?_⟩
  refine decode_c (hnib.kp0 kO13) (hz.kp0 kO13) hs13.rd hBl (Nat.le_refl _) (fun hne => absurd hBd hne) fun _ p w14 hp1 hp2 hpo k14 fp1 fp2 hpone => ⟨_, _, _, _, _, _, _, _, _, rfl, ?_⟩
  rw [hBc, hBg] at hpo
  have hps : p.lsn = q.lsn := by rw [hp2, hBs]
  refine AlF.intro fun b3 w15 hb3e hb3 k15 s15 => st4 hb3 rfl fun w19 hb319 k19 s19 => ?_
  have hbp : Blk w19 b3 p.cs T_page_Page := hb319
  have k1419 : Kp no w14 w19 := kp_blk k15 (by omega) k19
  have hpo19 := hpo.kp0 k1419
  refine ⟨_, _, _, _, _, _, _, _, ⟨pc0 hbp, pc1 hbp, pc2 hbp, pc3 hbp, trivial⟩, ?_⟩
  have hpcl := hpo.cl
  have hpgl := hpo.gl
  refine copy_c (p := p) hpo19.to_in (by omega) (by omega) fun c w20 hc1 hc2 hcc k20 fc1 fc2 hcd => ⟨_, _, _, _, _, _, _, _, rfl, ?_⟩
  refine AlF.intro fun b4 w21 hb4e hb4 k21 s21 => st4 hb4 rfl fun w25 hb425 k25 s25 => ?_
  have hbc : Blk w25 b4 c.cs T_page_Page := hb425
  have k2025 : Kp no w20 w25 := kp_blk k21 (by omega) k25
  have k1925 := k20.trans0 k2025
  have k1325 := (k14.trans0 k1419).trans0 k1925
  have k825 : Kp (Is pa) w8 w25 := k813.trans0 k1325.of_no
  have hbp25 := k1925.blk hbp id
  have hbv25 : Blk w25 b2 v.cs T_quotaref07_Page := k825.blk hbv8 (nb hb2t8 (by omega))
  have hv25 : v.Own w25 cs gs := hv8.own.kp k825 (fun b hb => nb (hv8.tc b hb) (by omega)) (fun b hb => nb (hv8.tg b hb) (by omega))
  refine ⟨fun _ w' => Kp no w25 w', ?_, ?_⟩
  · have kd : Kp no w25 w25.drew := Kp.drew w25 1
    refine ⟨fun w' => Kp no w25 w', kd, cond_f rfl ?_⟩
    refine ⟨_, _, _, _, _, _, _, _, fun w' kz => ⟨pc0 (kz.blk hbp25 id), pc1 (kz.blk hbp25 id), pc2 (kz.blk hbp25 id), pc3 (kz.blk hbp25 id), trivial⟩, ?_⟩
    refine ⟨_, _, _, _, _, _, _, _, fun w' kz => ⟨pc0 (kz.blk hbv25 id), pc1 (kz.blk hbv25 id), pc2 (kz.blk hbv25 id), pc3 (kz.blk hbv25 id), trivial⟩, ?_⟩
    refine back_c (p := p) fun w26 k26 => ⟨_, _, _, _, _, _, _, _, rfl, kd.trans0 k26, ?_⟩
    refine same_c (p := p) (q := v) (hpo19.kp0 ((k1925.trans0 kd).trans0 k26)).to_in (hv25.kp0 (kd.trans0 k26)).to_in fun w27 k27 => ⟨_, rfl, (kd.trans0 k26).trans0 k27, cond_f ?_ ?_⟩
    · have e : sameP p cs gs v cs gs = true := decide_eq_true ⟨by rw [hp1, hv1], by rw [hps, hv2], rfl, rfl⟩
      rw [e]; rfl
    have k2527 := (kd.trans0 k26).trans0 k27
    refine ⟨_, _, _, _, _, _, _, _, fun w' kz => ⟨pc0 (kz.blk hbc id), pc1 (kz.blk hbc id), pc2 (kz.blk hbc id), pc3 (kz.blk hbc id), trivial⟩, ?_⟩
    refine ⟨_, _, _, _, _, _, _, _, fun w' kz => ⟨pc0 (kz.blk hbv25 id), pc1 (kz.blk hbv25 id), pc2 (kz.blk hbv25 id), pc3 (kz.blk hbv25 id), trivial⟩, ?_⟩
    refine back_c (p := c) fun w28 k28 => ⟨_, _, _, _, _, _, _, _, rfl, k2527.trans0 k28, ?_⟩
    refine same_c (p := c) (q := v) (hcc.kp0 ((k2025.trans0 k2527).trans0 k28)).to_in (hv25.kp0 (k2527.trans0 k28)).to_in fun w29 k29 => ⟨_, rfl, (k2527.trans0 k28).trans0 k29, cond_f ?_ ?_⟩
    · have e : sameP c cs gs v cs gs = true := decide_eq_true ⟨by rw [hc1, hp1, hv1], by rw [hc2, hps, hv2], rfl, rfl⟩
      rw [e]; rfl
    exact (k2527.trans0 k28).trans0 k29
  rintro u16 w30 k30 _
  have k830 : Kp (Is pa) w8 w30 := k825.trans0 k30.of_no
  have hsz9 := k9.size
  have hsz13 := k13.size
  have hsz14 := k14.size
  have hsz19 := k1419.size
  have hsz20 := k20.size
  have ltp1 := hpo.c.lt
  have ltp2 := hpo.g.lt
  have ltc1 := hcc.c.lt
  have ltc2 := hcc.g.lt
  -- the owners of what is new
  obtain ⟨ow30, hf30, hpl30, t10, tp, tc, hb3t, hb4t⟩ : ∃ ow30, Fro (fun t => t ≠ 7) w8 ow8 w30 ow30 ∧ SlT w30 ow30 T_uint8 1 pa 1024 1024 (bvs X) 7 ∧ SlT w30 ow30 T_uint8 1 a10 1024 1024 (bvs X) (100 + E8.length) ∧ OwT w30 ow30 p cs gs (1000 + 2 * Q8.length) (1001 + 2 * Q8.length) ∧ OwT w30 ow30 c cs gs (1002 + 2 * Q8.length) (1003 + 2 * Q8.length) ∧ ow30 b3 = 1 ∧ ow30 b4 = 1 := by
    have q1 : ∀ k, Is p.ca k → ¬ Is a10 k := fun k hk hh => by have := lt10 k hh; have := fp1 k hk; omega
    have q2 : ∀ k, Is p.ga k → ¬ Is a10 k ∧ ¬ Is p.ca k := fun k hk => ⟨fun hh => by have := lt10 k hh; have := fp2 k hk; omega, fun hh => by
      rcases hpone with h0 | h0
      · rw [h0] at hh; exact is_none hh
      · rw [h0] at hk; exact is_none hk⟩
    have q3 : ∀ k, Is c.ca k → ¬ Is a10 k ∧ ¬ Is p.ca k ∧ ¬ Is p.ga k := fun k hk => ⟨fun hh => by have := lt10 k hh; have := fc1 k hk; omega, fun hh => by have := ltp1 k hh; have := fc1 k hk; omega, fun hh => by have := ltp2 k hh; have := fc1 k hk; omega⟩
    have q4 : ∀ k, Is c.ga k → ¬ Is a10 k ∧ ¬ Is p.ca k ∧ ¬ Is p.ga k ∧ ¬ Is c.ca k := fun k hk => ⟨fun hh => by have := lt10 k hh; have := fc2 k hk; omega, fun hh => by have := ltp1 k hh; have := fc2 k hk; omega, fun hh => by have := ltp2 k hh; have := fc2 k hk; omega, fun hh => hcd k hh hk⟩
    have old : ∀ k, k < w8.heap.size → tag (Is a10) (100 + E8.length) (tag (Is p.ca) (1000 + 2 * Q8.length) (tag (Is p.ga) (1001 + 2 * Q8.length) (tag (Is c.ca) (1002 + 2 * Q8.length) (tag (Is c.ga) (1003 + 2 * Q8.length) (ext ow8 w8.heap.size 1))))) k = ow8 k := fun k hk => by
      rw [tag_out (fun hh => by have := f10 k hh; omega), tag_out (fun hh => by have := fp1 k hh; omega), tag_out (fun hh => by have := fp2 k hh; omega), tag_out (fun hh => by have := fc1 k hh; omega), tag_out (fun hh => by have := fc2 k hh; omega), ext_old hk]
    refine ⟨_, ⟨k830.mono fun b _ hb hne => hne (hpl8.tg b hb), fun b hb _ => old b hb⟩, ⟨hs13.kp0 (k1325.trans0 k30), fun k hk => by rw [old k (ltp k hk)]; exact hpl8.tg k hk⟩, ⟨((hs10.kp k13 nap).kp0 k1325).kp0 k30, fun k hk => tag_in hk⟩, ⟨hpo19.kp0 (k1925.trans0 k30), fun k hk => ?_, fun k hk => ?_⟩, ⟨hcc.kp0 (k2025.trans0 k30), fun k hk => ?_, fun k hk => ?_⟩, ?_, ?_⟩
    · rw [tag_out (q1 k hk), tag_in hk]
    · rw [tag_out (q2 k hk).1, tag_out (q2 k hk).2, tag_in hk]
    · rw [tag_out (q3 k hk).1, tag_out (q3 k hk).2.1, tag_out (q3 k hk).2.2, tag_in hk]
    · rw [tag_out (q4 k hk).1, tag_out (q4 k hk).2.1, tag_out (q4 k hk).2.2.1, tag_out (q4 k hk).2.2.2, tag_in hk]
    · rw [tag_out (fun hh => by have := lt10 _ hh; omega), tag_out (fun hh => by have := ltp1 _ hh; omega), tag_out (fun hh => by have := ltp2 _ hh; omega), tag_out (fun hh => by have := fc1 _ hh; omega), tag_out (fun hh => by have := fc2 _ hh; omega), ext_new (by omega)]
    · rw [tag_out (fun hh => by have := lt10 _ hh; omega), tag_out (fun hh => by have := ltp1 _ hh; omega), tag_out (fun hh => by have := ltp2 _ hh; omega), tag_out (fun hh => by have := ltc1 _ hh; omega), tag_out (fun hh => by have := ltc2 _ hh; omega), ext_new (by omega)]
  have hL30 := hL8.frA hf30 fun t ht => by omega
  have hv30 := hv8.fr hf30 (by omega) (by omega)
  have hbp30 := k30.blk hbp25 id
  have hbc30 := k30.blk hbc id
  have hbv30 := k30.blk hbv25 id
  have hen8 : E8.length + 1 ≤ 100 := by omega
  have hqn8 : Q8.length + 2 ≤ 200 := by omega
  -- the bytes
  refine ⟨A8.ba, E8.length, A8.bc, hL30.b.cell 0, AlF.intro fun b5 w31 hb5e hb5 k31 s31 => ?_⟩
  have f31 : Fro (fun _ => True) w30 ow30 w31 ow30 := Fro.new k31 fun _ _ => rfl
  refine app_c er_sl (hL30.l3.fr f31 trivial) (rd_cells (xs := [.slice a10 1024 1024]) hb5 rfl) rfl (fun h => by cases h) (fun v hv => by rw [List.mem_singleton] at hv; subst hv; rfl) (by omega) (by omega) fun na nc w32 hs32 k32 f32 => ⟨_, _, _, rfl, ?_⟩
  obtain ⟨hb32, ht32⟩ := blk_fr (blk_fr hL30.b hL30.bt f31 trivial).1 (blk_fr hL30.b hL30.bt f31 trivial).2 f32 (by omega)
  refine NilF.intro rfl (st_lb (i := 0) rfl hb32 ht32 (by simp [LA.cs]) fun w33 hb33 k33 f33 => ?_)
  have hb33' : Blk w33 lb #[.slice na (E8.length + 1) nc, .slice A8.sa E8.length A8.sc, .slice A8.pa Q8.length A8.pc, .slice A8.ra Q8.length A8.rc] T_quotalaw07_Lists := hb33
  have f3033 : Fro (fun t => t ≠ 2 ∧ t ≠ 3) w30 ow30 w33 _ := ((f31.mono fun _ _ => trivial).trans (f32.mono fun t ht => ht.2)).trans (f33.mono fun t ht => ht.1)
  have hs33 := hs32.fr f33 (by omega)
  have ht33 : ext ow30 w31.heap.size 3 lb = 2 := ht32
  generalize ext ow30 w31.heap.size 3 = ow33 at *
  have l4 := hL30.l4.fr f3033 (by omega)
  have l5 := hL30.l5.fr f3033 (by omega)
  have l6 := hL30.l6.fr f3033 (by omega)
  have ee := hL30.e.fr f3033 (fun k _ => by omega)
  have pp := hL30.p.fr f3033 (fun k _ => by omega)
  have qq := hL30.q.fr f3033 (by omega)
  have t10' := t10.fr f3033 (by omega)
  have tp' := tp.fr f3033 (by omega) (by omega)
  have tc' := tc.fr f3033 (by omega) (by omega)
  have hv33 := hv30.fr f3033 (by omega) (by omega)
  have hpl33 := hpl30.fr f3033 (by omega)
  have hb2t30 : ow30 b2 = 1 := by rw [hf30.ag b2 hbv8.lt (by rw [hb2t8]; omega), hb2t8]
  obtain ⟨hbp33, hb3t33⟩ := blk_fr hbp30 hb3t f3033 (by omega)
  obtain ⟨hbc33, hb4t33⟩ := blk_fr hbc30 hb4t f3033 (by omega)
  obtain ⟨hbv33, hb2t33⟩ := blk_fr hbv30 hb2t30 f3033 (by omega)
  -- the texts
  have lbn : ∀ {a : Option Addr} {u : Nat}, Tg ow33 u (Is a) → u ≠ 2 → ¬ Is a lb := fun ht hne hh => hne (by rw [← ht _ hh]; exact ht33)
  have kd33 : Kp no w33 w33.drew := Kp.drew w33 1
  refine ⟨fun w' => Kp (Is A8.sa) w33 w', kd33.of_no, A8.sa, E8.length, A8.sc, fun w' kz => by rw [add_at]; exact (kz.blk hb33' (lbn l4.tg (by omega))).cell 1, ?_⟩
  refine convert_bytes (e := T_uint8) (by kernel_rfl) (by kernel_rfl) (by kernel_rfl) (t10'.sl.kp0 kd33).rd hBl (sl_some t10'.sl (by omega)) fun z1 hz1 => ⟨z1, rfl, kd33.of_no, ?_⟩
  refine AlF.intro fun b6 w35 hb6e hb6 k35 s35 => ⟨(kd33.trans0 k35).of_no, ?_⟩
  have f35 : Fro (fun _ => True) w33 ow33 w35 ow33 := Fro.new (kd33.trans0 k35) fun _ _ => rfl
  refine app_c er_str (l4.fr f35 trivial) (rd_cells (xs := [.string z1]) hb6 rfl) rfl (fun h => by cases h) (fun v hv => by rw [List.mem_singleton] at hv; subst hv; rfl) (by omega) (by omega) fun sa' sc' w36 hs36 k36 f36 => ⟨_, _, _, rfl, (kd33.trans0 k35).of_no.trans0 k36, ?_⟩
  obtain ⟨hb36, ht36⟩ := blk_fr (blk_fr hb33' ht33 f35 trivial).1 (blk_fr hb33' ht33 f35 trivial).2 f36 (by omega)
  refine NilF.intro rfl (st_lb (add_at _ _ _) hb36 ht36 (by simp) fun w37 hb37 k37 f37 => ?_)
  have hb37' : Blk w37 lb #[.slice na (E8.length + 1) nc, .slice sa' (E8.length + 1) sc', .slice A8.pa Q8.length A8.pc, .slice A8.ra Q8.length A8.rc] T_quotalaw07_Lists := hb37
  have f3337 : Fro (fun t => t ≠ 2 ∧ t ≠ 4) w33 ow33 w37 _ := ((f35.mono fun _ _ => trivial).trans (f36.mono fun t ht => ht.2)).trans (f37.mono fun t ht => ht.1)
  have hs37 := hs36.fr f37 (by omega)
  have ht37 : ext ow33 w35.heap.size 4 lb = 2 := ht36
  generalize ext ow33 w35.heap.size 4 = ow37 at *
  have l3 := hs33.fr f3337 (by omega)
  have l5 := l5.fr f3337 (by omega)
  have l6 := l6.fr f3337 (by omega)
  have ee := ee.fr f3337 (fun k _ => by omega)
  have pp := pp.fr f3337 (fun k _ => by omega)
  have qq := qq.fr f3337 (by omega)
  have t10' := t10'.fr f3337 (by omega)
  have tp' := tp'.fr f3337 (by omega) (by omega)
  have tc' := tc'.fr f3337 (by omega) (by omega)
  have hv37 := hv33.fr f3337 (by omega) (by omega)
  have hpl37 := hpl33.fr f3337 (by omega)
  have f3037 : Fro (fun t => t ≠ 2 ∧ t ≠ 3 ∧ t ≠ 4) w30 ow30 w37 ow37 := (f3033.mono fun t ht => by omega).trans (f3337.mono fun t ht => by omega)
  obtain ⟨hbp37, hb3t37⟩ := blk_fr hbp33 hb3t33 f3337 (by omega)
  obtain ⟨hbc37, hb4t37⟩ := blk_fr hbc33 hb4t33 f3337 (by omega)
  obtain ⟨hbv37, hb2t37⟩ := blk_fr hbv33 hb2t33 f3337 (by omega)
  -- the pages
  have nis : ∀ {a : Option Addr} {u b t : Nat}, Tg ow37 u (Is a) → ow37 b = t → u ≠ t → ¬ Is a b := fun ht hb hne hh => hne (by rw [← ht _ hh]; exact hb)
  have kd37 : Kp no w37 w37.drew := Kp.drew w37 1
  refine ⟨fun w' => Kp (Is A8.pa) w37 w', kd37.of_no, A8.pa, Q8.length, A8.pc, fun w' kz => by rw [add_at]; exact (kz.blk hb37' (nis l5.tg ht37 (by omega))).cell 2, ?_⟩
  refine ⟨_, _, _, _, _, _, _, _, fun w' kz => by have hz := kz.blk hbp37 (nis l5.tg hb3t37 (by omega)); exact ⟨pc0 hz, pc1 hz, pc2 hz, pc3 hz, trivial⟩, ?_⟩
  refine ⟨_, _, _, _, _, _, _, _, fun w' kz => by have hz := kz.blk hbc37 (nis l5.tg hb4t37 (by omega)); exact ⟨pc0 hz, pc1 hz, pc2 hz, pc3 hz, trivial⟩, ?_⟩
  refine AlF.intro fun b7 w38 hb7e hb7 k38 s38 => ⟨(kd37.trans0 k38).of_no, ?_⟩
  have f38 : Fro (fun _ => True) w37 ow37 w38 ow37 := Fro.new (kd37.trans0 k38) fun _ _ => rfl
  have one8 : ∀ (x y : PgV), ∀ u ∈ x.cs.toList ++ y.cs.toList, u.oneCell' = true := fun x y u hu => by
    simp only [PgV.cs, List.cons_append, List.nil_append, List.mem_cons, List.not_mem_nil, or_false] at hu
    rcases hu with rfl | rfl | rfl | rfl | rfl | rfl | rfl | rfl <;> rfl
  refine app_c er_pg (l5.fr f38 trivial) (rd_cells (xs := p.cs.toList ++ c.cs.toList) hb7 rfl) rfl (fun h => by cases h) (one8 p c) (by omega) (by omega) fun pa' pc' w39 hs39 k39 f39 => ⟨_, _, _, rfl, (kd37.trans0 k38).of_no.trans0 k39, ?_⟩
  obtain ⟨hb39, ht39⟩ := blk_fr (blk_fr hb37' ht37 f38 trivial).1 (blk_fr hb37' ht37 f38 trivial).2 f39 (by omega)
  refine NilF.intro rfl (st_lb (add_at _ _ _) hb39 ht39 (by simp) fun w40 hb40 k40 f40 => ?_)
  have hb40' : Blk w40 lb #[.slice na (E8.length + 1) nc, .slice sa' (E8.length + 1) sc', .slice pa' (Q8.length + 2) pc', .slice A8.ra Q8.length A8.rc] T_quotalaw07_Lists := hb40
  have f3740 : Fro (fun t => t ≠ 2 ∧ t ≠ 5) w37 ow37 w40 _ := ((f38.mono fun _ _ => trivial).trans (f39.mono fun t ht => ht.2)).trans (f40.mono fun t ht => ht.1)
  have hs40 := hs39.fr f40 (by omega)
  have ht40 : ext ow37 w38.heap.size 5 lb = 2 := ht39
  generalize ext ow37 w38.heap.size 5 = ow40 at *
  have l3 := l3.fr f3740 (by omega)
  have l4 := hs37.fr f3740 (by omega)
  have l6 := l6.fr f3740 (by omega)
  have ee := ee.fr f3740 (fun k _ => by omega)
  have pp := pp.fr f3740 (fun k _ => by omega)
  have qq := qq.fr f3740 (by omega)
  have t10' := t10'.fr f3740 (by omega)
  have tp' := tp'.fr f3740 (by omega) (by omega)
  have tc' := tc'.fr f3740 (by omega) (by omega)
  have hv40 := hv37.fr f3740 (by omega) (by omega)
  have hpl40 := hpl37.fr f3740 (by omega)
  obtain ⟨hbv40, hb2t40⟩ := blk_fr hbv37 hb2t37 f3740 (by omega)
  -- what they were
  have nis : ∀ {a : Option Addr} {u b t : Nat}, Tg ow40 u (Is a) → ow40 b = t → u ≠ t → ¬ Is a b := fun ht hb hne hh => hne (by rw [← ht _ hh]; exact hb)
  have kd40 : Kp no w40 w40.drew := Kp.drew w40 1
  refine ⟨fun w' => Kp (Is A8.ra) w40 w', kd40.of_no, A8.ra, Q8.length, A8.rc, fun w' kz => by rw [add_at]; exact (kz.blk hb40' (nis l6.tg ht40 (by omega))).cell 3, ?_⟩
  refine ⟨_, _, _, _, _, _, _, _, fun w' kz => by have hz := kz.blk hbv40 (nis l6.tg hb2t40 (by omega)); exact ⟨pc0 hz, pc1 hz, pc2 hz, pc3 hz, trivial⟩, ?_⟩
  refine ⟨_, _, _, _, _, _, _, _, fun w' kz => by have hz := kz.blk hbv40 (nis l6.tg hb2t40 (by omega)); exact ⟨pc0 hz, pc1 hz, pc2 hz, pc3 hz, trivial⟩, ?_⟩
  refine AlF.intro fun b8 w41 hb8e hb8 k41 s41 => ⟨(kd40.trans0 k41).of_no, ?_⟩
  have f41 : Fro (fun _ => True) w40 ow40 w41 ow40 := Fro.new (kd40.trans0 k41) fun _ _ => rfl
  refine app_c er_rp (l6.fr f41 trivial) (rd_cells (xs := v.cs.toList ++ v.cs.toList) hb8 rfl) rfl (fun h => by cases h) (one8 v v) (by omega) (by omega) fun ra' rc' w42 hs42 k42 f42 => ⟨_, _, _, rfl, (kd40.trans0 k41).of_no.trans0 k42, ?_⟩
  obtain ⟨hb42, ht42⟩ := blk_fr (blk_fr hb40' ht40 f41 trivial).1 (blk_fr hb40' ht40 f41 trivial).2 f42 (by omega)
  refine NilF.intro rfl (st_lb (add_at _ _ _) hb42 ht42 (by simp) fun w43 hb43 k43 f43 => ?_)
  have hb43' : Blk w43 lb #[.slice na (E8.length + 1) nc, .slice sa' (E8.length + 1) sc', .slice pa' (Q8.length + 2) pc', .slice ra' (Q8.length + 2) rc'] T_quotalaw07_Lists := hb43
  have f4043 : Fro (fun t => t ≠ 2 ∧ t ≠ 6) w40 ow40 w43 _ := ((f41.mono fun _ _ => trivial).trans (f42.mono fun t ht => ht.2)).trans (f43.mono fun t ht => ht.1)
  have hs43 := hs42.fr f43 (by omega)
  have ht43 : ext ow40 w41.heap.size 6 lb = 2 := ht42
  generalize ext ow40 w41.heap.size 6 = ow43 at *
  have l3 := l3.fr f4043 (by omega)
  have l4 := l4.fr f4043 (by omega)
  have l5 := hs40.fr f4043 (by omega)
  have ee := ee.fr f4043 (fun k _ => by omega)
  have pp := pp.fr f4043 (fun k _ => by omega)
  have qq := qq.fr f4043 (by omega)
  have t10' := t10'.fr f4043 (by omega)
  have tp' := tp'.fr f4043 (by omega) (by omega)
  have tc' := tc'.fr f4043 (by omega) (by omega)
  have hv43 := hv40.fr f4043 (by omega) (by omega)
  have hpl43 := hpl40.fr f4043 (by omega)
  have hE1 : (E8 ++ [⟨a10, X, z1⟩] : List BE).length = E8.length + 1 := by simp
  have hQ1 : (Q8 ++ [⟨p, v, cs, gs⟩, ⟨c, v, cs, gs⟩] : List PE).length = Q8.length + 2 := by simp
  refine ⟨⟨r + 1, ow43, ⟨na, nc, sa', sc', pa', pc', ra', rc'⟩, E8 ++ [⟨a10, X, z1⟩], Q8 ++ [⟨p, v, cs, gs⟩, ⟨c, v, cs, gs⟩], X, rfl, by omega, ⟨?_, ht43, ?_, ?_, ?_, ?_, ?_, ?_, ?_, by omega, by omega, ?_⟩, by omega, by omega, hpl43, ?_⟩, by simp only [Int.toNat_natCast]; omega⟩
  · rw [hE1, hQ1]; exact hb43'
  · rw [hE1, List.map_append]; exact l3
  · rw [hE1, List.map_append]; exact l4
  · rw [hQ1, flatV_app]; exact l5
  · rw [hQ1, flatV_app]; exact hs43
  · exact ee.snoc t10' hz1
  · exact pp.snoc2 tp' tc'
  · exact qq.snoc2 ⟨hv43, by rw [hp1, hv1], by rw [hps, hv2]⟩ ⟨hv43, by rw [hc1, hp1, hv1], by rw [hc2, hps, hv2]⟩
  · intro e he
    rcases List.mem_append.1 he with he | he
    · exact hL8.sm e he
    · simp only [List.mem_cons, List.not_mem_nil, or_false] at he
      rcases he with rfl | rfl <;> exact ⟨by dsimp only; omega, by dsimp only; omega⟩
  · exact ((((hf8.trans (hf30.mono fun t ht => by omega)).trans (f3037.mono fun t ht => by omega)).trans (f3740.mono fun t ht => by omega)).trans (f4043.mono fun t ht => by omega))
end Go.Proofs.YtnkdonpammdldaaDoor

/- Elements of owned slices written; a page's two lists made longer, in whatever order. Conditions: none. -/
set_option linter.unusedVariables false
set_option linter.unusedSimpArgs false
namespace Go.Proofs.YtnkdonpammdldaaDoor
open Go Go.RowKit

theorem Sl.shrink {w : World} {e : TypeId} {s : Nat} {a : Option Addr} {l m c : Nat} {xs news : List Value} (h : Sl w e s a (l + m) c (xs ++ news)) (hl : xs.length = l * s) : Sl w e s a l c xs := by
  obtain ⟨h1, h2, h3⟩ := h
  refine ⟨hl, by omega, ?_⟩
  rcases h3 with h3 | ⟨b, cur, ha, hb, hs, ht⟩
  · exact .inl h3
  · refine .inr ⟨b, cur, ha, hb, hs, ?_⟩
    have e1 : l * s ≤ (l + m) * s := Nat.mul_le_mul_right _ (by omega)
    have := congrArg (List.take (l * s)) ht
    rw [List.take_take, Nat.min_eq_left e1, ← hl, List.take_left] at this
    rw [← hl]
    exact this

theorem set5 : ∀ (L : List CL) (k : Nat) (x : CL), k < L.length → (((((fC L).set (k * 5) (.int .i64 x.id)).set (k * 5 + 1) (.int .i64 x.grp)).set (k * 5 + 2) (.int .i64 x.lo)).set (k * 5 + 3) (.int .i64 x.hi)).set (k * 5 + 4) (.int .i64 x.val) = fC (L.set k x)
  | [], _, _, h => by simp at h
  | y :: r, 0, x, _ => by simp [fC, flatV, CL.cs]
  | y :: r, k + 1, x, h => by
    have ih := set5 r k x (by simpa using h)
    have e : fC (y :: r) = y.cs ++ fC r := rfl
    have e' : fC ((y :: r).set (k + 1) x) = y.cs ++ fC (r.set k x) := rfl
    have hy := y.cs_len
    have sr : ∀ (l : List Value) (i : Nat) (v : Value), (y.cs ++ l).set (5 + i) v = y.cs ++ l.set i v := fun l i v => by rw [List.set_append_right _ _ (by omega), hy, Nat.add_sub_cancel_left]
    rw [e, e', ← ih]
    have n0 : (k + 1) * 5 = 5 + k * 5 := by omega
    have n1 : (k + 1) * 5 + 1 = 5 + (k * 5 + 1) := by omega
    have n2 : (k + 1) * 5 + 2 = 5 + (k * 5 + 2) := by omega
    have n3 : (k + 1) * 5 + 3 = 5 + (k * 5 + 3) := by omega
    have n4 : (k + 1) * 5 + 4 = 5 + (k * 5 + 4) := by omega
    rw [n1, n2, n3, n4, n0, sr, sr, sr, sr, sr]
theorem set2 : ∀ (L : List GL) (k : Nat) (x : GL), k < L.length → ((fG L).set (k * 2) (.int .i64 x.id)).set (k * 2 + 1) (.int .i64 x.sum) = fG (L.set k x)
  | [], _, _, h => by simp at h
  | y :: r, 0, x, _ => by simp [fG, flatV, GL.cs]
  | y :: r, k + 1, x, h => by
    have ih := set2 r k x (by simpa using h)
    have e : fG (y :: r) = y.cs ++ fG r := rfl
    have e' : fG ((y :: r).set (k + 1) x) = y.cs ++ fG (r.set k x) := rfl
    have hy := y.cs_len
    have sr : ∀ (l : List Value) (i : Nat) (v : Value), (y.cs ++ l).set (2 + i) v = y.cs ++ l.set i v := fun l i v => by rw [List.set_append_right _ _ (by omega), hy, Nat.add_sub_cancel_left]
    rw [e, e', ← ih]
    have n0 : (k + 1) * 2 = 2 + k * 2 := by omega
    have n1 : (k + 1) * 2 + 1 = 2 + (k * 2 + 1) := by omega
    rw [n1, n0, sr, sr]

/-- One cell of an owned slice, whatever its elements. -/
theorem Sl.putv {w : World} {e : TypeId} {s : Nat} {b l c i : Nat} {xs : List Value} (h : Sl w e s (some ⟨b, 0, none⟩) l c xs) (hi : i < l * s) {v : Value} {ad : Addr} (had : ad = ⟨b, i, none⟩) {K : World → Prop}
    (hk : ∀ w', Sl w' e s (some ⟨b, 0, none⟩) l c (xs.set i v) → Kp (Is (some ⟨b, 0, none⟩)) w w' → w'.heap.size = w.heap.size → K w') : StF w ad v K := by
  obtain ⟨h1, h2, h3⟩ := h
  rcases h3 with ⟨h3, _⟩ | ⟨b', cur, ha, hblk, hsz, htk⟩
  · cases h3
  cases ha
  have hls : l * s ≤ c * s := Nat.mul_le_mul_right _ h2
  refine StF.at had hblk (by omega) fun w' hb' k' s' => hk w' ⟨by rw [List.length_set]; exact h1, h2, .inr ⟨b, _, rfl, hb', by simpa using hsz, ?_⟩⟩ (k'.mono fun k _ hkb => ⟨_, rfl, hkb.symm⟩) s'
  rw [← htk, Array.toList_setIfInBounds, List.take_set]

theorem Sl.put5 {w : World} {b l c k : Nat} {L : List CL} (h : Sl w T_api_Counter 5 (some ⟨b, 0, none⟩) l c (fC L)) (hk : k < l) (x : CL) {n : Int} (hn : n = (k : Int)) {K : World → Prop}
    (hK : ∀ w', Sl w' T_api_Counter 5 (some ⟨b, 0, none⟩) l c (fC (L.set k x)) → Kp (Is (some ⟨b, 0, none⟩)) w w' → w'.heap.size = w.heap.size → K w') :
    StF w ((⟨b, 0, none⟩ : Addr).add (Int.toNat n * 5)) (.int .i64 x.id) fun w1 => StF w1 (Addr.add ((⟨b, 0, none⟩ : Addr).add (Int.toNat n * 5)) 1) (.int .i64 x.grp) fun w2 => StF w2 (Addr.add ((⟨b, 0, none⟩ : Addr).add (Int.toNat n * 5)) 2) (.int .i64 x.lo) fun w3 =>
      StF w3 (Addr.add ((⟨b, 0, none⟩ : Addr).add (Int.toNat n * 5)) 3) (.int .i64 x.hi) fun w4 => StF w4 (Addr.add ((⟨b, 0, none⟩ : Addr).add (Int.toNat n * 5)) 4) (.int .i64 x.val) K := by
  subst hn
  have hL : L.length = l := by have := h.1; rw [fC_len] at this; omega
  have e : ∀ q, Addr.add ((⟨b, 0, none⟩ : Addr).add (Int.toNat (k : Int) * 5)) q = ⟨b, k * 5 + q, none⟩ := fun q => by rw [Int.toNat_natCast, add2_at]; congr 1; omega
  have e0 : (⟨b, 0, none⟩ : Addr).add (Int.toNat (k : Int) * 5) = ⟨b, k * 5, none⟩ := by rw [Int.toNat_natCast, add_at]; congr 1; omega
  refine h.putv (by omega) e0 fun w1 h1 k1 s1 => h1.putv (by omega) (e 1) fun w2 h2 k2 s2 => h2.putv (by omega) (e 2) fun w3 h3 k3 s3 => h3.putv (by omega) (e 3) fun w4 h4 k4 s4 => h4.putv (by omega) (e 4) fun w5 h5 k5 s5 => hK w5 ?_ ((((k1.trans0 k2).trans0 k3).trans0 k4).trans0 k5) (by omega)
  rw [← set5 L k x (by omega)]
  exact h5
theorem Sl.put2 {w : World} {b l c k : Nat} {L : List GL} (h : Sl w T_api_Group 2 (some ⟨b, 0, none⟩) l c (fG L)) (hk : k < l) (x : GL) {n : Int} (hn : n = (k : Int)) {K : World → Prop}
    (hK : ∀ w', Sl w' T_api_Group 2 (some ⟨b, 0, none⟩) l c (fG (L.set k x)) → Kp (Is (some ⟨b, 0, none⟩)) w w' → w'.heap.size = w.heap.size → K w') :
    StF w ((⟨b, 0, none⟩ : Addr).add (Int.toNat n * 2)) (.int .i64 x.id) fun w1 => StF w1 (Addr.add ((⟨b, 0, none⟩ : Addr).add (Int.toNat n * 2)) 1) (.int .i64 x.sum) K := by
  subst hn
  have hL : L.length = l := by have := h.1; rw [fG_len] at this; omega
  have e : ∀ q, Addr.add ((⟨b, 0, none⟩ : Addr).add (Int.toNat (k : Int) * 2)) q = ⟨b, k * 2 + q, none⟩ := fun q => by rw [Int.toNat_natCast, add2_at]; congr 1; omega
  have e0 : (⟨b, 0, none⟩ : Addr).add (Int.toNat (k : Int) * 2) = ⟨b, k * 2, none⟩ := by rw [Int.toNat_natCast, add_at]; congr 1; omega
  refine h.putv (by omega) e0 fun w1 h1 k1 s1 => h1.putv (by omega) (e 1) fun w2 h2 k2 s2 => hK w2 ?_ (k1.trans0 k2) (by omega)
  rw [← set2 L k x (by omega)]
  exact h2

def zpg : Array Value := #[.int .i64 0, .int .i64 0, .slice none 0 0, .slice none 0 0]
/-- A page's two lists, each made longer by one, in whatever order: what has been done. -/
structure XS (w0 : World) (p : PgV) (L : List CL) (G : List GL) (x : CL) (g : GL) (w : World) (oc og op : Option Nat) (lc lg : Option (Option Addr × Nat)) : Prop where
  kp : Kp (fun j => Is p.ca j ∨ Is p.ga j) w0 w
  dis : ∀ j, Is p.ca j → ¬ Is p.ga j
  oc_ : ∀ j, Is p.ca j → j < w0.heap.size
  og_ : ∀ j, Is p.ga j → j < w0.heap.size
  hc : ∀ b, oc = some b → Blk w b x.ca T_api_Counter ∧ w0.heap.size ≤ b
  hg : ∀ b, og = some b → Blk w b g.ca T_api_Group ∧ w0.heap.size ≤ b
  hp : ∀ b, op = some b → Blk w b zpg T_page_Page ∧ w0.heap.size ≤ b
  lc0 : Sl w T_api_Counter 5 p.ca p.cl p.cc (fC L)
  lg0 : Sl w T_api_Group 2 p.ga p.gl p.gc (fG G)
  lc1 : ∀ a c', lc = some (a, c') → Sl w T_api_Counter 5 a (p.cl + 1) c' (fC (L ++ [x])) ∧ (∀ j, Is a j → Is p.ca j ∨ w0.heap.size ≤ j) ∧ ∀ b, op = some b → ¬ Is a b
  lg1 : ∀ a c', lg = some (a, c') → Sl w T_api_Group 2 a (p.gl + 1) c' (fG (G ++ [g])) ∧ (∀ j, Is a j → Is p.ga j ∨ w0.heap.size ≤ j) ∧ ∀ b, op = some b → ¬ Is a b
  cross : ∀ a c' a2 c2, lc = some (a, c') → lg = some (a2, c2) → ∀ j, Is a j → ¬ Is a2 j
section
variable {w0 : World} {p : PgV} {L : List CL} {G : List GL} {x : CL} {g : GL} {w w' : World} {oc og op : Option Nat} {lc lg : Option (Option Addr × Nat)}
theorem XS.kp0 (h : XS w0 p L G x g w oc og op lc lg) (k : Kp no w w') : XS w0 p L G x g w' oc og op lc lg :=
  ⟨h.kp.trans0 k.of_no, h.dis, h.oc_, h.og_, fun b hb => ⟨k.blk (h.hc b hb).1 id, (h.hc b hb).2⟩, fun b hb => ⟨k.blk (h.hg b hb).1 id, (h.hg b hb).2⟩, fun b hb => ⟨k.blk (h.hp b hb).1 id, (h.hp b hb).2⟩,
    h.lc0.kp0 k, h.lg0.kp0 k, fun a c' hl => ⟨(h.lc1 a c' hl).1.kp0 k, (h.lc1 a c' hl).2⟩, fun a c' hl => ⟨(h.lg1 a c' hl).1.kp0 k, (h.lg1 a c' hl).2⟩, h.cross⟩
theorem rAC {K : Nat → World → Prop} (h : XS w0 p L G x g w none og op lc lg) (hK : ∀ b w', XS w0 p L G x g w' (some b) og op lc lg → K b w') : AlF w (.cells x.ca T_api_Counter) fun b w' => Kp (fun j => Is p.ca j ∨ Is p.ga j) w0 w' ∧ K b w' := by
  refine AlF.intro fun b w' hbe hb k s => ?_
  have h' := h.kp0 k
  have := h.kp.size
  exact ⟨h'.kp, hK b w' ⟨h'.kp, h'.dis, h'.oc_, h'.og_, fun b' hb' => by cases hb'; exact ⟨hb, by omega⟩, h'.hg, h'.hp, h'.lc0, h'.lg0, h'.lc1, h'.lg1, h'.cross⟩⟩
theorem rAG {K : Nat → World → Prop} (h : XS w0 p L G x g w oc none op lc lg) (hK : ∀ b w', XS w0 p L G x g w' oc (some b) op lc lg → K b w') : AlF w (.cells g.ca T_api_Group) fun b w' => Kp (fun j => Is p.ca j ∨ Is p.ga j) w0 w' ∧ K b w' := by
  refine AlF.intro fun b w' hbe hb k s => ?_
  have h' := h.kp0 k
  have := h.kp.size
  exact ⟨h'.kp, hK b w' ⟨h'.kp, h'.dis, h'.oc_, h'.og_, h'.hc, fun b' hb' => by cases hb'; exact ⟨hb, by omega⟩, h'.hp, h'.lc0, h'.lg0, h'.lc1, h'.lg1, h'.cross⟩⟩
theorem rAP {K : Nat → World → Prop} (h : XS w0 p L G x g w oc og none lc lg) (hK : ∀ b w', XS w0 p L G x g w' oc og (some b) lc lg → K b w') : AlF w (.cells zpg T_page_Page) fun b w' => Kp (fun j => Is p.ca j ∨ Is p.ga j) w0 w' ∧ K b w' := by
  refine AlF.intro fun b w' hbe hb k s => ?_
  have h' := h.kp0 k
  have := h.kp.size
  refine ⟨h'.kp, hK b w' ⟨h'.kp, h'.dis, h'.oc_, h'.og_, h'.hc, h'.hg, fun b' hb' => by cases hb'; exact ⟨hb, by omega⟩, h'.lc0, h'.lg0, fun a c' hl => ⟨(h'.lc1 a c' hl).1, (h'.lc1 a c' hl).2.1, fun b' hb' hh => ?_⟩, fun a c' hl => ⟨(h'.lg1 a c' hl).1, (h'.lg1 a c' hl).2.1, fun b' hb' hh => ?_⟩, h'.cross⟩⟩
  · cases hb'; have := (h.lc1 a c' hl).1.lt _ hh; omega
  · cases hb'; have := (h.lg1 a c' hl).1.lt _ hh; omega
theorem rPC {b : Nat} {K : Option Addr → Nat → Nat → World → Prop} (h : XS w0 p L G x g w (some b) og op none lg) (hb : p.cl + 1 ≤ 1000) (hK : ∀ a c' w', XS w0 p L G x g w' (some b) og op (some (a, c')) lg → K a (p.cl + 1) c' w') :
    RunF Tryd.prog (Builtin.append_ #[T_s_api_Counter, T_s_api_Counter] T_s_api_Counter #[.slice p.ca p.cl p.cc, .slice (some ⟨b, 0, none⟩) 1 1]) w fun r w' => ∃ (a2 : Option Addr) (l2 c2 : Nat), r = .slice a2 l2 c2 ∧ (Kp (fun j => Is p.ca j ∨ Is p.ga j) w0 w' ∧ K a2 l2 c2 w') := by
  obtain ⟨hbc, hbo⟩ := h.hc b rfl
  refine append_own er_ctr h.lc0 (rd_cells (xs := x.cs) hbc rfl) rfl (fun h => by cases h) (fun u hu => by simp only [CL.cs, List.mem_cons, List.not_mem_nil, or_false] at hu; rcases hu with rfl | rfl | rfl | rfl | rfl <;> rfl) (by omega) (by omega) fun a' c' w' hs k hi hroom hgrow => ⟨_, _, _, rfl, ?_⟩
  have k1 : Kp (fun j => Is p.ca j ∨ Is p.ga j) w0 w' := h.kp.trans0 (k.mono fun _ _ h => .inl h)
  have hfx : fC (L ++ [x]) = fC L ++ x.cs := by rw [fC_app]; simp [fC, flatV]
  have hfl : (fC L).length = p.cl * 5 := h.lc0.1
  refine ⟨k1, hK a' c' w' ⟨k1, h.dis, h.oc_, h.og_, fun b' hb' => ⟨k.blk (h.hc b' hb').1 fun hh => by have := h.oc_ _ hh; have := (h.hc b' hb').2; omega, (h.hc b' hb').2⟩, fun b' hb' => ⟨k.blk (h.hg b' hb').1 fun hh => by have := h.oc_ _ hh; have := (h.hg b' hb').2; omega, (h.hg b' hb').2⟩, fun b' hb' => ⟨k.blk (h.hp b' hb').1 fun hh => by have := h.oc_ _ hh; have := (h.hp b' hb').2; omega, (h.hp b' hb').2⟩, ?_, h.lg0.kp k fun j hj hh => h.dis j hh hj, fun a2 c2 hl => ?_, fun a2 c2 hl => ⟨(h.lg1 a2 c2 hl).1.kp k fun j hj hh => ?_, (h.lg1 a2 c2 hl).2⟩, fun a2 c2 a3 c3 hl hl' j hj => ?_⟩⟩
  · by_cases hr : p.cl + 1 ≤ p.cc
    · obtain ⟨e1, e2⟩ := hroom hr
      subst e1; subst e2
      exact hs.shrink hfl
    · exact h.lc0.kp0 (hgrow (by omega)).2
  · cases hl
    refine ⟨by rw [hfx]; exact hs, fun j hj => (hi j hj).imp id fun hh => by have := h.kp.size; omega, fun b' hb' hh => ?_⟩
    have := (h.hp b' hb').1.lt
    have := (h.hp b' hb').2
    rcases hi b' hh with h1 | h1
    · have := h.oc_ _ h1; omega
    · omega
  · rcases (h.lg1 a2 c2 hl).2.1 j hj with h1 | h1
    · exact h.dis j hh h1
    · have := h.oc_ j hh; omega
  · cases hl
    intro hj3
    have lt := (h.lg1 a3 c3 hl').1.lt j hj3
    rcases hi j hj with h1 | h1
    · rcases (h.lg1 a3 c3 hl').2.1 j hj3 with h2 | h2
      · exact h.dis j h1 h2
      · have := h.oc_ j h1; omega
    · omega
theorem rPG {b : Nat} {K : Option Addr → Nat → Nat → World → Prop} (h : XS w0 p L G x g w oc (some b) op lc none) (hb : p.gl + 1 ≤ 1000) (hK : ∀ a c' w', XS w0 p L G x g w' oc (some b) op lc (some (a, c')) → K a (p.gl + 1) c' w') :
    RunF Tryd.prog (Builtin.append_ #[T_s_api_Group, T_s_api_Group] T_s_api_Group #[.slice p.ga p.gl p.gc, .slice (some ⟨b, 0, none⟩) 1 1]) w fun r w' => ∃ (a2 : Option Addr) (l2 c2 : Nat), r = .slice a2 l2 c2 ∧ (Kp (fun j => Is p.ca j ∨ Is p.ga j) w0 w' ∧ K a2 l2 c2 w') := by
  obtain ⟨hbc, hbo⟩ := h.hg b rfl
  refine append_own er_grp h.lg0 (rd_cells (xs := g.cs) hbc rfl) rfl (fun h => by cases h) (fun u hu => by simp only [GL.cs, List.mem_cons, List.not_mem_nil, or_false] at hu; rcases hu with rfl | rfl <;> rfl) (by omega) (by omega) fun a' c' w' hs k hi hroom hgrow => ⟨_, _, _, rfl, ?_⟩
  have k1 : Kp (fun j => Is p.ca j ∨ Is p.ga j) w0 w' := h.kp.trans0 (k.mono fun _ _ h => .inr h)
  have hfx : fG (G ++ [g]) = fG G ++ g.cs := by rw [fG_app]; simp [fG, flatV]
  have hfl : (fG G).length = p.gl * 2 := h.lg0.1
  refine ⟨k1, hK a' c' w' ⟨k1, h.dis, h.oc_, h.og_, fun b' hb' => ⟨k.blk (h.hc b' hb').1 fun hh => by have := h.og_ _ hh; have := (h.hc b' hb').2; omega, (h.hc b' hb').2⟩, fun b' hb' => ⟨k.blk (h.hg b' hb').1 fun hh => by have := h.og_ _ hh; have := (h.hg b' hb').2; omega, (h.hg b' hb').2⟩, fun b' hb' => ⟨k.blk (h.hp b' hb').1 fun hh => by have := h.og_ _ hh; have := (h.hp b' hb').2; omega, (h.hp b' hb').2⟩, h.lc0.kp k fun j hj hh => h.dis j hj hh, ?_, fun a2 c2 hl => ⟨(h.lc1 a2 c2 hl).1.kp k fun j hj hh => ?_, (h.lc1 a2 c2 hl).2⟩, fun a2 c2 hl => ?_, fun a2 c2 a3 c3 hl hl' j hj => ?_⟩⟩
  · by_cases hr : p.gl + 1 ≤ p.gc
    · obtain ⟨e1, e2⟩ := hroom hr
      subst e1; subst e2
      exact hs.shrink hfl
    · exact h.lg0.kp0 (hgrow (by omega)).2
  · rcases (h.lc1 a2 c2 hl).2.1 j hj with h1 | h1
    · exact h.dis j h1 hh
    · have := h.og_ j hh; omega
  · cases hl
    refine ⟨by rw [hfx]; exact hs, fun j hj => (hi j hj).imp id fun hh => by have := h.kp.size; omega, fun b' hb' hh => ?_⟩
    have := (h.hp b' hb').1.lt
    have := (h.hp b' hb').2
    rcases hi b' hh with h1 | h1
    · have := h.og_ _ h1; omega
    · omega
  · cases hl'
    intro hj3
    have lt := (h.lc1 a2 c2 hl).1.lt j hj
    rcases hi j hj3 with h1 | h1
    · rcases (h.lc1 a2 c2 hl).2.1 j hj with h2 | h2
      · exact h.dis j h2 h1
      · have := h.og_ j h1; omega
    · omega
end
end Go.Proofs.YtnkdonpammdldaaDoor

/- The contract of the statements' own 'mark'. Conditions: none. -/
set_option linter.unusedVariables false
set_option linter.unusedSimpArgs false
namespace Go.Proofs.YtnkdonpammdldaaDoor
open Go Go.RowKit

def uB (k : Nat) : UInt8 := UInt8.ofNat k
def fillB (k : Nat) : List UInt8 := List.replicate 1024 (uB k)
def twoB (k : Nat) : List UInt8 := [uB k, uB k]
theorem u8v {k : Nat} (h : k < 256) : Value.int .u8 (IntKind.wrap .u8 (k : Int)) = bv (uB k) := by
  rw [wrap_u8 (by omega) (by omega)]
  exact bv_of h
theorem mkCs_len (i : Int) (n l : Nat) : (mkCs i n l).length = n := by simp [mkCs]
theorem mkGs_len (i : Int) (n l : Nat) : (mkGs i n l).length = n := by simp [mkGs]
theorem mkCs_snoc (i : Int) (n : Nat) : mkCs i n 0 ++ [⟨i, 0, 0, 0, 0⟩] = mkCs i (n + 1) 1 := by
  unfold mkCs
  rw [List.range_succ, List.map_append]
  congr 1
  simp
theorem mkGs_snoc (i : Int) (n : Nat) : mkGs i n 0 ++ [⟨i, 0⟩] = mkGs i (n + 1) 1 := by
  unfold mkGs
  rw [List.range_succ, List.map_append]
  congr 1
  simp
theorem half_set {α : Type} {X Y : List α} {j : Nat} (hj : j < X.length) (hl : X.length = Y.length) {x : α} (hx : X[j] = x) : (X.take j ++ Y.drop j).set j x = X.take (j + 1) ++ Y.drop (j + 1) := by
  have e1 : j - (X.take j).length = 0 := by simp; omega
  rw [List.set_append_right _ _ (by simp; omega), e1, List.drop_eq_getElem_cons (by omega : j < Y.length), List.set_cons_zero, take_snoc_get X j hj, List.append_assoc, hx]
  rfl

def EBi (w : World) (ow : Nat → Nat) (E : List BE) (i : Nat) : Prop := ∀ k (h : k < E.length), SlT w ow T_uint8 1 (E[k]).a 1024 1024 (bvs (if k < i then fillB k else (E[k]).B)) (100 + k)
def EMi (w : World) (ow : Nat → Nat) (M : List (Option Addr × Nat)) : Prop := ∀ k (h : k < M.length), SlT w ow T_uint8 1 (M[k]).1 1026 (M[k]).2 (bvs (fillB k ++ twoB k)) (300 + k)
def EPi (w : World) (ow : Nat → Nat) (Q : List PE) (i : Nat) : Prop := ∀ k (h : k < Q.length), OwT w ow (Q[k]).p (if k < i then mkCs (-(k : Int)) (Q[k]).p.cl 0 else (Q[k]).cs) (if k < i then mkGs (-(k : Int)) (Q[k]).p.gl 0 else (Q[k]).gs) (1000 + 2 * k) (1001 + 2 * k)
def ENi (w : World) (ow : Nat → Nat) (N : List PgV) : Prop := ∀ k (h : k < N.length), OwT w ow (N[k]) (mkCs (-(k : Int)) (N[k]).cl 1) (mkGs (-(k : Int)) (N[k]).gl 1) (1000 + 2 * k) (1001 + 2 * k)
/-- What stays all along. -/
structure MkS (w0 w : World) (ow : Nat → Nat) (lb b1 : Nat) (A : LA) (E : List BE) (Q : List PE) : Prop where
  old : Old w0 w ow
  b : Blk w lb (A.cs E.length Q.length) T_quotalaw07_Lists
  bt : ow lb = 2
  l3 : SlT w ow T_s_uint8 1 A.ba E.length A.bc (E.map beV) 3
  l5 : SlT w ow T_page_Page 4 A.pa Q.length A.pc (flatV ppV Q) 5
  t1 : ow b1 = 20
structure L1 (w0 w : World) (ow : Nat → Nat) (lb b1 : Nat) (A : LA) (E : List BE) (Q : List PE) (i : Nat) (mb : Option Addr) (mc : Nat) (ms : Option Addr) (msc : Nat) (third : Value) (M : List (Option Addr × Nat)) (Y Z : List ByteArray) : Prop where
  s : MkS w0 w ow lb b1 A E Q
  e : EBi w ow E i
  zl : Z.length = E.length
  z : SlT w ow T_string 1 A.sa E.length A.sc (Z.map Value.string) 4
  zv : ∀ k (h : k < Z.length), k < i → (Z[k]).toList = fillB k
  ml : M.length = i
  yl : Y.length = i
  b1 : Blk w b1 #[.slice mb i mc, .slice ms i msc, third, .slice none 0 0] T_quotalaw07_Lists
  m : SlT w ow T_s_uint8 1 mb i mc (M.map fun x => .slice x.1 1026 x.2) 21
  y : SlT w ow T_string 1 ms i msc (Y.map Value.string) 22
  em : EMi w ow M
  ev : ∀ k (h : k < Y.length), (Y[k]).toList = fillB k ++ twoB k
section
variable {T : Nat → Prop} {w0 w w' : World} {ow ow' : Nat → Nat} {lb b1 : Nat} {A : LA} {E : List BE} {Q : List PE}
theorem EBi.fr {i : Nat} (h : EBi w ow E i) (f : Fro T w ow w' ow') (ht : ∀ k, k < E.length → T (100 + k)) : EBi w' ow' E i := fun k hk => (h k hk).fr f (ht k hk)
theorem EMi.fr {M : List (Option Addr × Nat)} (h : EMi w ow M) (f : Fro T w ow w' ow') (ht : ∀ k, k < M.length → T (300 + k)) : EMi w' ow' M := fun k hk => (h k hk).fr f (ht k hk)
theorem EPi.fr {i : Nat} (h : EPi w ow Q i) (f : Fro T w ow w' ow') (ht : ∀ k, T (1000 + k)) : EPi w' ow' Q i := fun k hk => (h k hk).fr f (ht _) (by have := ht (2 * k + 1); rwa [show 1000 + (2 * k + 1) = 1001 + 2 * k by omega] at this)
theorem ENi.fr {N : List PgV} (h : ENi w ow N) (f : Fro T w ow w' ow') (ht : ∀ k, k < 2 * N.length → T (1000 + k)) : ENi w' ow' N := fun k hk => (h k hk).fr f (ht _ (by omega)) (by have := ht (2 * k + 1) (by omega); rwa [show 1000 + (2 * k + 1) = 1001 + 2 * k by omega] at this)
theorem MkS.fr (h : MkS w0 w ow lb b1 A E Q) (f : Fro T w ow w' ow') (hlt : b1 < w.heap.size) (h0 : T 0) (h2 : T 2) (h3 : T 3) (h5 : T 5) (h20 : T 20) : MkS w0 w' ow' lb b1 A E Q :=
  ⟨h.old.fr f h0, (blk_fr h.b h.bt f h2).1, (blk_fr h.b h.bt f h2).2, h.l3.fr f h3, h.l5.fr f h5, by rw [f.ag b1 hlt (by rw [h.t1]; exact h20), h.t1]⟩
theorem L1.fr {i : Nat} {mb : Option Addr} {mc : Nat} {ms : Option Addr} {msc : Nat} {third : Value} {M : List (Option Addr × Nat)} {Y Z : List ByteArray} (h : L1 w0 w ow lb b1 A E Q i mb mc ms msc third M Y Z) (f : Fro T w ow w' ow') (hT : ∀ t, t < 1000 → t ≠ 1 → t ≠ 23 → T t) (hE : E.length ≤ 100) (hi : i ≤ 100) : L1 w0 w' ow' lb b1 A E Q i mb mc ms msc third M Y Z :=
  ⟨h.s.fr f h.b1.lt (hT _ (by omega) (by omega) (by omega)) (hT _ (by omega) (by omega) (by omega)) (hT _ (by omega) (by omega) (by omega)) (hT _ (by omega) (by omega) (by omega)) (hT _ (by omega) (by omega) (by omega)), h.e.fr f (fun k hk => hT _ (by omega) (by omega) (by omega)), h.zl, h.z.fr f (hT _ (by omega) (by omega) (by omega)), h.zv, h.ml, h.yl, (blk_fr h.b1 h.s.t1 f (hT _ (by omega) (by omega) (by omega))).1, h.m.fr f (hT _ (by omega) (by omega) (by omega)), h.y.fr f (hT _ (by omega) (by omega) (by omega)), h.em.fr f (fun k hk => hT _ (by have := h.ml; omega) (by omega) (by omega)), h.ev⟩
end

theorem cat_toList (a b : ByteArray) : (a ++ b).toList = a.toList ++ b.toList := by
  rw [toList_eq, toList_eq, toList_eq]
  simp
theorem size_toList (a : ByteArray) : a.size = a.toList.length := by rw [toList_eq]; rfl

/-- What follows a page's two lists made longer: the page is put behind the others. -/
theorem tail3 {w0 w : World} {p : PgV} {L : List CL} {G : List GL} {x : CL} {g : GL} {b bc bg b1 : Nat} {a31 a32 : Option Addr} {c31 c32 : Nat} {ow : Nat → Nat} {mp : Option Addr} {i mpc : Nat} {N : List PgV} {v0 v1 v3 : Value} {K : World → Prop}
    (hX : XS w0 p L G x g w (some bc) (some bg) (some b) (some (a31, c31)) (some (a32, c32))) (hb1 : Blk w b1 #[v0, v1, .slice mp i mpc, v3] T_quotalaw07_Lists) (ht1 : ow b1 = 20) (hbb : b ≠ b1) (hN : N.length = i) (hi : i ≤ 300)
    (hmp : SlT w ow T_page_Page 4 mp i mpc (flatV (fun q : PgV => q.cs.toList) N) 23) (hbm : ow b ≠ 23)
    (h : ∀ mp' mpc' w' ow', Blk w' b1 #[v0, v1, .slice mp' (i + 1) mpc', v3] T_quotalaw07_Lists → SlT w' ow' T_page_Page 4 mp' (i + 1) mpc' (flatV (fun q : PgV => q.cs.toList) (N ++ [⟨p.num, p.lsn, a31, p.cl + 1, c31, a32, p.gl + 1, c32⟩])) 23 → Fro (fun t => t ≠ 20 ∧ t ≠ 23 ∧ t ≠ ow b) w ow w' ow' → ow' b1 = 20 → K w') :
    StF w ⟨b, 0, none⟩ (.int .i64 p.num) fun w47 => StF w47 (Addr.add ⟨b, 0, none⟩ 1) (.int .i64 p.lsn) fun w48 => StF w48 (Addr.add ⟨b, 0, none⟩ 2) (.slice a31 (p.cl + 1) c31) fun w49 => StF w49 (Addr.add ⟨b, 0, none⟩ 3) (.slice a32 (p.gl + 1) c32) fun w50 =>
      ∃ (a33 : Option Addr) (l33 c33 : Nat), w50.cell? (Addr.add ⟨b1, 0, none⟩ 2) = some (.slice a33 l33 c33) ∧
      (∃ (n7 : Int) (n8 : Int) (a34 : Option Addr) (l34 c34 : Nat) (a35 : Option Addr) (l35 c35 : Nat), (w50.cell? ⟨b, 0, none⟩ = some (.int .i64 n7) ∧ w50.cell? (Addr.add ⟨b, 0, none⟩ 1) = some (.int .i64 n8) ∧ w50.cell? (Addr.add ⟨b, 0, none⟩ 2) = some (.slice a34 l34 c34) ∧ w50.cell? (Addr.add ⟨b, 0, none⟩ 3) = some (.slice a35 l35 c35) ∧ True) ∧
        (AlF w50 (.cells #[(.int .i64 n7), (.int .i64 n8), (.slice a34 l34 c34), (.slice a35 l35 c35)] T_page_Page) fun b11 w51 => (RunF Tryd.prog (Builtin.append_ #[T_s_page_Page, T_s_page_Page] T_s_page_Page #[(.slice a33 l33 c33), (.slice (some ⟨b11, 0, none⟩) 1 1)]) w51 fun r8 w52 => ∃ (a36 : Option Addr) (l36 c36 : Nat), r8 = (.slice a36 l36 c36) ∧ (StF w52 (Addr.add ⟨b1, 0, none⟩ 2) (.slice a36 l36 c36) K)))) := by
  obtain ⟨hbz, hbo⟩ := hX.hp b rfl
  refine st4 hbz rfl fun w50 hb50 k50 s50 => ?_
  have f50 : Fro (fun t => t ≠ ow b) w ow w50 ow := Fro.of_kp' k50 fun b' _ hb' hne => hne (by rw [hb'])
  have hb150 := k50.blk hb1 (Ne.symm hbb)
  refine ⟨mp, i, mpc, by rw [add_at]; exact hb150.cell 2, p.num, p.lsn, a31, p.cl + 1, c31, a32, p.gl + 1, c32, ⟨hb50.cell 0, by rw [add_at]; exact hb50.cell 1, by rw [add_at]; exact hb50.cell 2, by rw [add_at]; exact hb50.cell 3, trivial⟩, ?_⟩
  refine AlF.intro fun b11 w51 hb11e hb11 k51 s51 => ?_
  have f51 : Fro (fun _ => True) w50 ow w51 ow := Fro.new k51 fun _ _ => rfl
  have hmp51 : SlT w51 ow T_page_Page 4 mp i mpc (flatV (fun q : PgV => q.cs.toList) N) 23 := ⟨(hmp.sl.kp k50 fun j hj hh => hbm (by rw [← hh]; exact hmp.tg j hj)).kp0 k51, hmp.tg⟩
  refine app_c er_pg hmp51 (rd_cells (xs := PgV.cs ⟨p.num, p.lsn, a31, p.cl + 1, c31, a32, p.gl + 1, c32⟩ |>.toList) hb11 rfl) rfl (fun h => by cases h) (fun u hu => by
    simp only [PgV.cs, List.mem_cons, List.not_mem_nil, or_false] at hu
    rcases hu with rfl | rfl | rfl | rfl <;> rfl) (by omega) (by omega) fun mp' mpc' w52 hs52 k52 f52 => ⟨_, _, _, rfl, ?_⟩
  obtain ⟨hb152, ht152⟩ := blk_fr (k51.blk hb150 id) ht1 f52 (by omega)
  refine StF.at (add_at _ _ _) hb152 (by simp) fun w53 hb53 k53 s53 => ?_
  have f53 : Fro (fun t => t ≠ 20) w52 (ext ow w51.heap.size 23) w53 (ext ow w51.heap.size 23) := Fro.of_kp' k53 fun b' _ hb' hne => hne (by rw [hb']; exact ht152)
  refine h mp' mpc' w53 (ext ow w51.heap.size 23) hb53 ?_ ?_ ht152
  · rw [flatV_app]
    have := hs52.fr f53 (by omega)
    simpa [flatV] using this
  · exact (((f50.mono fun t ht => ht.2.2).trans (f51.mono fun _ _ => trivial)).trans (f52.mono fun t ht => ht.2.1)).trans (f53.mono fun t ht => ht.1)
end Go.Proofs.YtnkdonpammdldaaDoor

/- The first loop of 'mark', piece by piece. Conditions: none. -/
set_option linter.unusedVariables false
set_option linter.unusedSimpArgs false
namespace Go.Proofs.YtnkdonpammdldaaDoor
open Go Go.RowKit

theorem m10 {w : World} {ow : Nat → Nat} {lb b1 i m : Nat} {A : LA} {E : List BE} {mb : Option Addr} {mc : Nat} {v1 v2 v3 : Value} {xs : List Value} {K : World → Prop} (hi : i < 100) (hE : i < E.length)
    (hb : Blk w lb (A.cs E.length m) T_quotalaw07_Lists) (ht : ow lb = 2) (h3 : SlT w ow T_s_uint8 1 A.ba E.length A.bc (E.map beV) 3) (he : SlT w ow T_uint8 1 (E[i]).a 1024 1024 (bvs (fillB i)) (100 + i))
    (hb1 : Blk w b1 #[.slice mb i mc, v1, v2, v3] T_quotalaw07_Lists) (ht1 : ow b1 = 20) (hm : SlT w ow T_s_uint8 1 mb i mc xs 21)
    (h : ∀ a13 c13 a12 c12 w' ow', Blk w' b1 #[.slice a13 (i + 1) c13, v1, v2, v3] T_quotalaw07_Lists → SlT w' ow' T_s_uint8 1 a13 (i + 1) c13 (xs ++ [.slice a12 1026 c12]) 21 → SlT w' ow' T_uint8 1 a12 1026 c12 (bvs (fillB i ++ twoB i)) (300 + i) →
      Fro (fun t => t ≠ 20 ∧ t ≠ 21) w ow w' ow' → ow' b1 = 20 → K w') :
    HeldF w fun S10 => (∃ (a9 : Option Addr) (l9 c9 : Nat), (∀ w, S10 w → w.cell? ⟨b1, 0, none⟩ = some (.slice a9 l9 c9)) ∧ (NilF (some ⟨lb, 0, none⟩) fun d11 => (∃ (a10 : Option Addr) (l10 c10 : Nat), (∀ w, S10 w → w.cell? d11 = some (.slice a10 l10 c10)) ∧ (IdxF a10 (i : Int) l10 fun d12 => (∃ (a11 : Option Addr) (l11 c11 : Nat), (∀ w, S10 w → w.cell? (d12.add (Int.toNat (i : Int))) = some (.slice a11 l11 c11)) ∧
      (AlF w.drew (.cells #[(.int .u8 (IntKind.wrap .u8 (i : Int))), (.int .u8 (IntKind.wrap .u8 (i : Int)))] T_uint8) fun b2 w8 => (S10 w8 ∧ (RunF Tryd.prog (Builtin.append_ #[T_s_uint8, T_s_uint8] T_s_uint8 #[(.slice a11 l11 c11), (.slice (some ⟨b2, 0, none⟩) 2 2)]) w8 fun r2 w9 => ∃ (a12 : Option Addr) (l12 c12 : Nat), r2 = (.slice a12 l12 c12) ∧ (S10 w9 ∧
      (AlF w9 (.cells #[(.slice a12 l12 c12)] T_s_uint8) fun b3 w10 => (S10 w10 ∧ (RunF Tryd.prog (Builtin.append_ #[T_s_s_uint8, T_s_s_uint8] T_s_s_uint8 #[(.slice a9 l9 c9), (.slice (some ⟨b3, 0, none⟩) 1 1)]) w10 fun r3 w11 => ∃ (a13 : Option Addr) (l13 c13 : Nat), r3 = (.slice a13 l13 c13) ∧ (S10 w11 ∧ (StF w11 ⟨b1, 0, none⟩ (.slice a13 l13 c13) K)))))))))))))) := by
  have nb1 : ¬ Is mb b1 := fun hh => by have := hm.tg b1 hh; omega
  have nlb : ¬ Is mb lb := fun hh => by have := hm.tg lb hh; omega
  obtain ⟨b3, o3, ha3, hc3⟩ := h3.sl.rd i (beV E[i]) (by simp [hE])
  have nb3 : ¬ Is mb b3 := fun hh => by have := hm.tg b3 hh; have := h3.tg b3 ⟨_, ha3, rfl⟩; omega
  have kd : Kp no w w.drew := Kp.drew w 1
  have f0 : Fro (fun _ => True) w ow w.drew ow := Fro.new kd fun _ _ => rfl
  refine ⟨fun w' => Kp (Is mb) w w', kd.of_no, _, _, _, fun w' kz => (kz.blk hb1 nb1).cell 0, _, _, _, fun w' kz => (kz.blk hb nlb).cell 0, by omega, by omega, _, ha3, (E[i]).a, 1024, 1024, fun w' kz => by rw [Int.toNat_natCast, add_at]; exact kz.cell hc3 nb3, ?_⟩
  rw [u8v (by omega)]
  refine AlF.intro fun b2 w8 hb2e hb2 k8 s8 => ⟨(kd.trans0 k8).of_no, ?_⟩
  have f8 : Fro (fun _ => True) w.drew ow w8 (ext ow w.drew.heap.size 1) := Fro.of_kp0 1 k8
  have he8 := (he.fr f0 trivial).fr f8 trivial
  refine append_own er_u8 he8.sl (rd_cells (xs := bvs (twoB i)) hb2 rfl) rfl (fun h => by cases h) bvs_one (by omega) (by omega) fun a12 c12 w9 hs9 k9 hi9 _ hgrow => ⟨_, _, _, rfl, ?_⟩
  obtain ⟨fr9, k9'⟩ := hgrow (by omega)
  refine ⟨((kd.trans0 k8).trans0 k9').of_no, ?_⟩
  have f9 : Fro (fun _ => True) w8 (ext ow w.drew.heap.size 1) w9 (ext (ext ow w.drew.heap.size 1) w8.heap.size (300 + i)) := Fro.of_kp0 _ k9'
  have hs9' : SlT w9 (ext (ext ow w.drew.heap.size 1) w8.heap.size (300 + i)) T_uint8 1 a12 1026 c12 (bvs (fillB i ++ twoB i)) (300 + i) := ⟨by rw [bvs_app]; exact hs9, fun j hj => ext_new (fr9 j hj)⟩
  refine AlF.intro fun b4 w10 hb4e hb4 k10 s10 => ⟨(((kd.trans0 k8).trans0 k9').trans0 k10).of_no, ?_⟩
  generalize ext (ext ow w.drew.heap.size 1) w8.heap.size (300 + i) = ow9 at *
  have f10 : Fro (fun _ => True) w9 ow9 w10 ow9 := Fro.new k10 fun _ _ => rfl
  have f010 := ((f0.trans f8).trans f9).trans f10
  have k010 := ((kd.trans0 k8).trans0 k9').trans0 k10
  refine app_c er_sl (hm.fr f010 trivial) (rd_cells (xs := [.slice a12 1026 c12]) hb4 rfl) rfl (fun h => by cases h) (fun u hu => by rw [List.mem_singleton] at hu; subst hu; rfl) (by omega) (by omega) fun a13 c13 w11 hs11 k11 f11 => ⟨_, _, _, rfl, ?_⟩
  refine ⟨k010.of_no.trans0 k11, ?_⟩
  obtain ⟨hb111, ht111⟩ := blk_fr (k010.blk hb1 id) (by rw [f010.ag b1 hb1.lt trivial, ht1]) f11 (by omega)
  refine StF.at rfl hb111 (by simp) fun w12 hb12 k12 s12 => ?_
  have f12 : Fro (fun t => t ≠ 20) w11 (ext ow9 w10.heap.size 21) w12 (ext ow9 w10.heap.size 21) := Fro.of_kp' k12 fun b' _ hb' hne => hne (by rw [hb']; exact ht111)
  refine h a13 c13 a12 c12 w12 _ hb12 (hs11.fr f12 (by omega)) (((hs9'.fr f10 trivial).fr f11 (by omega)).fr f12 (by omega)) (((f010.mono fun _ _ => trivial).trans (f11.mono fun t ht => ht.2)).trans (f12.mono fun t ht => ht.1)) ht111

theorem m11 {w : World} {ow : Nat → Nat} {lb b1 i m n : Nat} {A : LA} {Z : List ByteArray} {ms : Option Addr} {mc : Nat} {v0 v2 v3 : Value} {xs : List Value} {K : World → Prop} (hi : i < 100) (hn : Z.length = n) (hZ : i < Z.length)
    (hb : Blk w lb (A.cs n m) T_quotalaw07_Lists) (ht : ow lb = 2) (h4 : SlT w ow T_string 1 A.sa n A.sc (Z.map Value.string) 4) (hz : (Z[i]).toList = fillB i)
    (hb1 : Blk w b1 #[v0, .slice ms i mc, v2, v3] T_quotalaw07_Lists) (ht1 : ow b1 = 20) (hm : SlT w ow T_string 1 ms i mc xs 22)
    (h : ∀ a16 c16 z w' ow', Blk w' b1 #[v0, .slice a16 (i + 1) c16, v2, v3] T_quotalaw07_Lists → SlT w' ow' T_string 1 a16 (i + 1) c16 (xs ++ [.string z]) 22 → z.toList = fillB i ++ twoB i →
      Fro (fun t => t ≠ 20 ∧ t ≠ 22) w ow w' ow' → ow' b1 = 20 → K w') :
    HeldF w fun S11 => (∃ (a14 : Option Addr) (l14 c14 : Nat), (∀ w, S11 w → w.cell? (Addr.add ⟨b1, 0, none⟩ 1) = some (.slice a14 l14 c14)) ∧ (NilF (some ⟨lb, 0, none⟩) fun d13 => (∃ (a15 : Option Addr) (l15 c15 : Nat), (∀ w, S11 w → w.cell? (Addr.add d13 1) = some (.slice a15 l15 c15)) ∧ (IdxF a15 (i : Int) l15 fun d14 => (∃ (z2 : ByteArray), (∀ w, S11 w → w.cell? (d14.add (Int.toNat (i : Int))) = some (.string z2)) ∧
      (AlF w.drew (.cells #[(.int .u8 (IntKind.wrap .u8 (i : Int))), (.int .u8 (IntKind.wrap .u8 (i : Int)))] T_uint8) fun b4 w13 => (S11 w13 ∧ (RunF Tryd.prog (convert T_s_uint8 T_string (.slice (some ⟨b4, 0, none⟩) 2 2)) w13 fun r4 w14 => ∃ (z3 : ByteArray), r4 = (.string z3) ∧ (S11 w14 ∧ (SzF (ByteArray.size z2 + ByteArray.size z3)
      (AlF w14 (.cells #[(.string (z2 ++ z3))] T_string) fun b5 w15 => (S11 w15 ∧ (RunF Tryd.prog (Builtin.append_ #[T_s_string, T_s_string] T_s_string #[(.slice a14 l14 c14), (.slice (some ⟨b5, 0, none⟩) 1 1)]) w15 fun r5 w16 => ∃ (a16 : Option Addr) (l16 c16 : Nat), r5 = (.slice a16 l16 c16) ∧ (S11 w16 ∧ (StF w16 (Addr.add ⟨b1, 0, none⟩ 1) (.slice a16 l16 c16) K))))))))))))))) := by
  have nb1 : ¬ Is ms b1 := fun hh => by have := hm.tg b1 hh; omega
  have nlb : ¬ Is ms lb := fun hh => by have := hm.tg lb hh; omega
  obtain ⟨b3, o3, ha3, hc3⟩ := h4.sl.rd i (.string Z[i]) (by simp [hZ])
  have nb3 : ¬ Is ms b3 := fun hh => by have := hm.tg b3 hh; have := h4.tg b3 ⟨_, ha3, rfl⟩; omega
  have kd : Kp no w w.drew := Kp.drew w 1
  have f0 : Fro (fun _ => True) w ow w.drew ow := Fro.new kd fun _ _ => rfl
  refine ⟨fun w' => Kp (Is ms) w w', kd.of_no, _, _, _, fun w' kz => by rw [add_at]; exact (kz.blk hb1 nb1).cell 1, _, _, _, fun w' kz => by rw [add_at]; exact (kz.blk hb nlb).cell 1, by omega, by omega, _, ha3, Z[i], fun w' kz => by rw [Int.toNat_natCast, add_at]; exact kz.cell hc3 nb3, ?_⟩
  rw [u8v (by omega)]
  refine AlF.intro fun b2 w8 hb2e hb2 k8 s8 => ⟨(kd.trans0 k8).of_no, ?_⟩
  refine convert_bytes (e := T_uint8) (by kernel_rfl) (by kernel_rfl) (by kernel_rfl) (rd_cells (xs := bvs (twoB i)) hb2 rfl) rfl (fun h => by cases h) fun z3 hz3 => ⟨z3, rfl, (kd.trans0 k8).of_no, ?_⟩
  refine ⟨by rw [size_toList, size_toList, hz, hz3]; have : (fillB i).length = 1024 := List.length_replicate; have : (twoB i).length = 2 := rfl; omega, ?_⟩
  refine AlF.intro fun b5 w9 hb5e hb5 k9 s9 => ⟨((kd.trans0 k8).trans0 k9).of_no, ?_⟩
  have k09 := (kd.trans0 k8).trans0 k9
  have f09 : Fro (fun _ => True) w ow w9 ow := Fro.new k09 fun _ _ => rfl
  refine app_c er_str (hm.fr f09 trivial) (rd_cells (xs := [.string (Z[i] ++ z3)]) hb5 rfl) rfl (fun h => by cases h) (fun u hu => by rw [List.mem_singleton] at hu; subst hu; rfl) (by omega) (by omega) fun a13 c13 w11 hs11 k11 f11 => ⟨_, _, _, rfl, ?_⟩
  refine ⟨k09.of_no.trans0 k11, ?_⟩
  obtain ⟨hb111, ht111⟩ := blk_fr (k09.blk hb1 id) (by rw [f09.ag b1 hb1.lt trivial, ht1]) f11 (by omega)
  refine StF.at (add_at _ _ _) hb111 (by simp) fun w12 hb12 k12 s12 => ?_
  have f12 : Fro (fun t => t ≠ 20) w11 (ext ow w9.heap.size 22) w12 (ext ow w9.heap.size 22) := Fro.of_kp' k12 fun b' _ hb' hne => hne (by rw [hb']; exact ht111)
  refine h a13 c13 (Z[i] ++ z3) w12 _ hb12 (hs11.fr f12 (by omega)) (by rw [cat_toList, hz, hz3]) (((f09.mono fun _ _ => trivial).trans (f11.mono fun t ht => ht.2)).trans (f12.mono fun t ht => ht.1)) ht111
end Go.Proofs.YtnkdonpammdldaaDoor

/- The first loop of 'mark'. Conditions: none. -/
set_option linter.unusedVariables false
set_option linter.unusedSimpArgs false
namespace Go.Proofs.YtnkdonpammdldaaDoor
open Go Go.RowKit

theorem slt_put {w : World} {ow : Nat → Nat} {e : TypeId} {a : Option Addr} {l c i t b o : Nat} {xs : List Value} (h : SlT w ow e 1 a l c xs t) (ha : a = some ⟨b, o, none⟩) (hi : i < l) {v : Value} {ad : Addr} (had : ad = ⟨b, o + i, none⟩) {K : World → Prop}
    (hk : ∀ w', SlT w' ow e 1 a l c (xs.set i v) t → Fro (fun u => u ≠ t) w ow w' ow → K w') : StF w ad v K := by
  obtain ⟨b', cur, ha', _⟩ := h.sl.addr (by omega)
  rw [ha'] at ha
  cases ha
  have hs := h.sl
  have ht := h.tg
  rw [ha'] at hs ht hk
  refine hs.putv (by omega) (by rw [had, Nat.zero_add]) fun w' hs' k' s' => hk w' ⟨hs', ht⟩ (Fro.of_kp' k' fun b' _ hb' hne => hne (ht b' hb'))
theorem bvs_set (l : List UInt8) (i : Nat) (x : UInt8) : (bvs l).set i (bv x) = bvs (l.set i x) := by simp [bvs, List.map_set]
theorem fillB_len (k : Nat) : (fillB k).length = 1024 := List.length_replicate
theorem EBi.step {w w' : World} {ow ow' : Nat → Nat} {E : List BE} {i : Nat} (h : EBi w ow E i) (hi : i < E.length) (f : Fro (fun t => t ≠ 100 + i) w ow w' ow') (hs : SlT w' ow' T_uint8 1 (E[i]).a 1024 1024 (bvs (fillB i)) (100 + i)) : EBi w' ow' E (i + 1) := by
  intro k hk
  by_cases hki : k = i
  · subst hki
    rw [if_pos (by omega)]
    exact hs
  · have := (h k hk).fr f (by omega)
    by_cases hl : k < i
    · rw [if_pos hl] at this
      rw [if_pos (by omega)]
      exact this
    · rw [if_neg hl] at this
      rw [if_neg (by omega)]
      exact this
theorem EMi.snoc {w : World} {ow : Nat → Nat} {M : List (Option Addr × Nat)} {a : Option Addr} {c : Nat} (h : EMi w ow M) (hs : SlT w ow T_uint8 1 a 1026 c (bvs (fillB M.length ++ twoB M.length)) (300 + M.length)) : EMi w ow (M ++ [(a, c)]) := by
  intro k hk
  by_cases hl : k < M.length
  · rw [List.getElem_append_left hl]; exact h k hl
  · have hke : k = M.length := by rw [List.length_append] at hk; simp at hk; omega
    subst hke
    rw [List.getElem_append_right (Nat.le_refl _)]
    simp only [Nat.sub_self, List.getElem_cons_zero]
    exact hs
theorem MkS.frX {T : Nat → Prop} {w0 w w' : World} {ow ow' : Nat → Nat} {lb b1 : Nat} {A : LA} {E : List BE} {Q : List PE} (h : MkS w0 w ow lb b1 A E Q) (f : Fro T w ow w' ow') (h0 : T 0) (h2 : T 2) (h3 : T 3) (h5 : T 5) (h20 : ow' b1 = 20) : MkS w0 w' ow' lb b1 A E Q :=
  ⟨h.old.fr f h0, (blk_fr h.b h.bt f h2).1, (blk_fr h.b h.bt f h2).2, h.l3.fr f h3, h.l5.fr f h5, h20⟩

set_option maxRecDepth 100000 in
theorem mark_l1 {w0 w : World} {ow : Nat → Nat} {lb b1 : Nat} {A : LA} {E : List BE} {Q : List PE} {K12 : Unit → World → Prop} (h1 : L1 w0 w ow lb b1 A E Q 0 none 0 none 0 (.slice none 0 0) [] [] (E.map fun e => e.z)) (hp : EP w ow Q) (hen : E.length ≤ 100)
    (h : ∀ w' ow' mb mc ms msc M Y Z, L1 w0 w' ow' lb b1 A E Q E.length mb mc ms msc (.slice none 0 0) M Y Z → EP w' ow' Q → K12 () w') :
    (LoopF (S := Int × Unit) ((0 : Int), ()) w fun s3 w2 Next3 => ∀ _J : Env, (NilF (some ⟨lb, 0, none⟩) fun d1 => (∃ (a1 : Option Addr) (l1 c1 : Nat), w2.cell? d1 = some (.slice a1 l1 c1) ∧ (cond (decide (s3.1 < ((l1 : Nat) : Int))) (JoinF (S := Unit) (fun K9 => (LoopF (S := Int × Unit) ((0 : Int), ()) w2 fun s6 w3 Next6 => ∀ _J : Env, (NilF (some ⟨lb, 0, none⟩) fun d2 => (∃ (a2 : Option Addr) (l2 c2 : Nat), w3.cell? d2 = some (.slice a2 l2 c2) ∧ (IdxF a2 s3.1 l2 fun d3 => (∃ (a3 : Option Addr) (l3 c3 : Nat), w3.cell? (d3.add (Int.toNat s3.1)) = some (.slice a3 l3 c3) ∧ (cond (decide (s6.1 < ((l3 : Nat) : Int))) (NilF (some ⟨lb, 0, none⟩) fun d4 => (∃ (a4 : Option Addr) (l4 c4 : Nat), w3.cell? d4 = some (.slice a4 l4 c4) ∧ (IdxF a4 s3.1 l4 fun d5 => (∃ (a5 : Option Addr) (l5 c5 : Nat), w3.cell? (d5.add (Int.toNat s3.1)) = some (.slice a5 l5 c5) ∧ (IdxF a5 s6.1 l5 fun d6 => (StF w3 (d6.add (Int.toNat s6.1)) (.int .u8 (IntKind.wrap .u8 s3.1)) fun w4 => (Next6 ((IntKind.wrap .i64 (s6.1 + (1 : Int))), ()) w4))))))) (K9 () w3)))))))) (fun _s9 w5 => ∀ _J : Env, (HeldF w5 fun S9 => (NilF (some ⟨lb, 0, none⟩) fun d7 => (∃ (a6 : Option Addr) (l6 c6 : Nat), (∀ w, S9 w → w.cell? (Addr.add d7 1) = some (.slice a6 l6 c6)) ∧ (NilF (some ⟨lb, 0, none⟩) fun d8 => (∃ (a7 : Option Addr) (l7 c7 : Nat), (∀ w, S9 w → w.cell? d8 = some (.slice a7 l7 c7)) ∧ (IdxF a7 s3.1 l7 fun d9 => (∃ (a8 : Option Addr) (l8 c8 : Nat), (∀ w, S9 w → w.cell? (d9.add (Int.toNat s3.1)) = some (.slice a8 l8 c8)) ∧ (RunF Tryd.prog (convert T_s_uint8 T_string (.slice a8 l8 c8)) w5.drew fun r1 w6 => ∃ (z1 : ByteArray), r1 = (.string z1) ∧ (S9 w6 ∧ (IdxF a6 s3.1 l6 fun d10 => (StF w6 (d10.add (Int.toNat s3.1)) (.string z1) fun w7 => (HeldF w7 fun S10 => (∃ (a9 : Option Addr) (l9 c9 : Nat), (∀ w, S10 w → w.cell? ⟨b1, 0, none⟩ = some (.slice a9 l9 c9)) ∧ (NilF (some ⟨lb, 0, none⟩) fun d11 => (∃ (a10 : Option Addr) (l10 c10 : Nat), (∀ w, S10 w → w.cell? d11 = some (.slice a10 l10 c10)) ∧ (IdxF a10 s3.1 l10 fun d12 => (∃ (a11 : Option Addr) (l11 c11 : Nat), (∀ w, S10 w → w.cell? (d12.add (Int.toNat s3.1)) = some (.slice a11 l11 c11)) ∧ (AlF w7.drew (.cells #[(.int .u8 (IntKind.wrap .u8 s3.1)), (.int .u8 (IntKind.wrap .u8 s3.1))] T_uint8) fun b2 w8 => (S10 w8 ∧ (RunF Tryd.prog (Builtin.append_ #[T_s_uint8, T_s_uint8] T_s_uint8 #[(.slice a11 l11 c11), (.slice (some ⟨b2, 0, none⟩) 2 2)]) w8 fun r2 w9 => ∃ (a12 : Option Addr) (l12 c12 : Nat), r2 = (.slice a12 l12 c12) ∧ (S10 w9 ∧ (AlF w9 (.cells #[(.slice a12 l12 c12)] T_s_uint8) fun b3 w10 => (S10 w10 ∧ (RunF Tryd.prog (Builtin.append_ #[T_s_s_uint8, T_s_s_uint8] T_s_s_uint8 #[(.slice a9 l9 c9), (.slice (some ⟨b3, 0, none⟩) 1 1)]) w10 fun r3 w11 => ∃ (a13 : Option Addr) (l13 c13 : Nat), r3 = (.slice a13 l13 c13) ∧ (S10 w11 ∧ (StF w11 ⟨b1, 0, none⟩ (.slice a13 l13 c13) fun w12 => (HeldF w12 fun S11 => (∃ (a14 : Option Addr) (l14 c14 : Nat), (∀ w, S11 w → w.cell? (Addr.add ⟨b1, 0, none⟩ 1) = some (.slice a14 l14 c14)) ∧ (NilF (some ⟨lb, 0, none⟩) fun d13 => (∃ (a15 : Option Addr) (l15 c15 : Nat), (∀ w, S11 w → w.cell? (Addr.add d13 1) = some (.slice a15 l15 c15)) ∧ (IdxF a15 s3.1 l15 fun d14 => (∃ (z2 : ByteArray), (∀ w, S11 w → w.cell? (d14.add (Int.toNat s3.1)) = some (.string z2)) ∧ (AlF w12.drew (.cells #[(.int .u8 (IntKind.wrap .u8 s3.1)), (.int .u8 (IntKind.wrap .u8 s3.1))] T_uint8) fun b4 w13 => (S11 w13 ∧ (RunF Tryd.prog (convert T_s_uint8 T_string (.slice (some ⟨b4, 0, none⟩) 2 2)) w13 fun r4 w14 => ∃ (z3 : ByteArray), r4 = (.string z3) ∧ (S11 w14 ∧ (SzF (ByteArray.size z2 + ByteArray.size z3) (AlF w14 (.cells #[(.string (z2 ++ z3))] T_string) fun b5 w15 => (S11 w15 ∧ (RunF Tryd.prog (Builtin.append_ #[T_s_string, T_s_string] T_s_string #[(.slice a14 l14 c14), (.slice (some ⟨b5, 0, none⟩) 1 1)]) w15 fun r5 w16 => ∃ (a16 : Option Addr) (l16 c16 : Nat), r5 = (.slice a16 l16 c16) ∧ (S11 w16 ∧ (StF w16 (Addr.add ⟨b1, 0, none⟩ 1) (.slice a16 l16 c16) fun w17 => (Next3 ((IntKind.wrap .i64 (s3.1 + (1 : Int))), ()) w17))))))))))))))))))))))))))))))))))))))))))))) (K12 () w2))))) := by
  refine loopN (fun s w' => ∃ (k : Nat) (ow' : Nat → Nat) (mb : Option Addr) (mc : Nat) (ms : Option Addr) (msc : Nat) (M : List (Option Addr × Nat)) (Y Z : List ByteArray), s.1 = (k : Int) ∧ k ≤ E.length ∧ L1 w0 w' ow' lb b1 A E Q k mb mc ms msc (.slice none 0 0) M Y Z ∧ EP w' ow' Q) (fun s _ => E.length - s.1.toNat)
    ⟨0, ow, none, 0, none, 0, [], [], _, rfl, by omega, h1, hp⟩ ?_
  rintro ⟨k0, u⟩ w2 ⟨k, ow2, mb, mc, ms, msc, M, Y, Z, hk0, hke, hL, hp2⟩ _
  dsimp only at hk0 ⊢
  subst hk0
  refine ⟨_, _, _, hL.s.b.cell 0, cond_d (fun hlt => ?_) (fun hge => ?_)⟩
  rotate_left
  · have hke' : k = E.length := by omega
    subst hke'
    exact h w2 ow2 mb mc ms msc M Y Z hL hp2
  have hk : k < E.length := by omega
  have hkw : IntKind.wrap .i64 ((k : Int) + 1) = ((k + 1 : Nat) : Int) := by rw [wrap_i64 (by omega) (by omega)]; omega
  rw [hkw]
  obtain ⟨b3, o3, ha3, hc3⟩ := hL.s.l3.sl.rd k (beV E[k]) (by simp [hk])
  have hEk := hL.e k hk
  rw [if_neg (by omega)] at hEk
  have hBl : (E[k]).B.length = 1024 := by have := hEk.sl.len; rwa [bvs_len] at this
  obtain ⟨be, cur, hae, _⟩ := hEk.sl.addr (by omega)
  have cw : ∀ w', Fro (fun t => t ≠ 100 + k) w2 ow2 w' ow2 → Blk w' lb (A.cs E.length Q.length) T_quotalaw07_Lists ∧ w'.cell? ⟨b3, o3 + k, none⟩ = some (.slice (E[k]).a 1024 1024) := fun w' f => by
    refine ⟨(blk_fr hL.s.b hL.s.bt f (by omega)).1, f.kp.cell hc3 fun hh => hh ?_⟩
    rw [hL.s.l3.tg b3 ⟨_, ha3, rfl⟩]
    omega
  refine ⟨fun _ w' => SlT w' ow2 T_uint8 1 (E[k]).a 1024 1024 (bvs (fillB k)) (100 + k) ∧ Fro (fun t => t ≠ 100 + k) w2 ow2 w' ow2, ?_, ?_⟩
  · refine loopN (fun s w' => ∃ j : Nat, s.1 = (j : Int) ∧ j ≤ 1024 ∧ SlT w' ow2 T_uint8 1 (E[k]).a 1024 1024 (bvs ((fillB k).take j ++ (E[k]).B.drop j)) (100 + k) ∧ Fro (fun t => t ≠ 100 + k) w2 ow2 w' ow2) (fun s _ => 1024 - s.1.toNat)
      ⟨0, rfl, by omega, by simpa using hEk, ⟨Kp.refl _ _, fun _ _ _ => rfl⟩⟩ ?_
    rintro ⟨j0, u'⟩ w3 ⟨j, hj0, hj, hs3, f3⟩ _
    dsimp only at hj0 ⊢
    subst hj0
    obtain ⟨hb3, hc3'⟩ := cw w3 f3
    refine ⟨_, _, _, hb3.cell 0, by omega, hlt, _, ha3, (E[k]).a, 1024, 1024, by rw [Int.toNat_natCast, add_at]; exact hc3', cond_d (fun hlt' => ?_) (fun hge' => ?_)⟩
    · have hjw : IntKind.wrap .i64 ((j : Int) + 1) = ((j + 1 : Nat) : Int) := by rw [wrap_i64 (by omega) (by omega)]; omega
      rw [hjw]
      refine ⟨_, _, _, hb3.cell 0, by omega, hlt, _, ha3, (E[k]).a, 1024, 1024, by rw [Int.toNat_natCast, add_at]; exact hc3', by omega, hlt', _, hae, ?_⟩
      rw [u8v (by omega)]
      refine slt_put hs3 hae (i := j) (by omega) (by rw [Int.toNat_natCast, add_at]) fun w4 hs4 f4 => ?_
      refine ⟨⟨j + 1, rfl, by omega, ?_, f3.trans f4⟩, by simp only [Int.toNat_natCast]; omega⟩
      rw [bvs_set, half_set (by rw [fillB_len]; omega) (by rw [fillB_len, hBl]) (by unfold fillB; exact List.getElem_replicate _)] at hs4
      exact hs4
    · have hj' : j = 1024 := by omega
      subst hj'
      refine ⟨?_, f3⟩
      rw [List.take_of_length_le (by rw [fillB_len]; omega), List.drop_eq_nil_of_le (by omega), List.append_nil] at hs3
      exact hs3
  rintro u5 w5 ⟨hs5, f5⟩ _
  have kd : Kp no w5 w5.drew := Kp.drew w5 1
  have fd : Fro (fun _ => True) w5 ow2 w5.drew ow2 := Fro.new kd fun _ _ => rfl
  obtain ⟨hb5, hc5⟩ := cw w5 f5
  have hz5 := hL.z.fr f5 (by omega)
  obtain ⟨b4, cur4, ha4, _⟩ := hz5.sl.addr (by omega)
  refine ⟨fun w' => Kp no w5 w', kd, _, _, _, fun w' kz => by rw [add_at]; exact (kz.blk hb5 id).cell 1, _, _, _, fun w' kz => (kz.blk hb5 id).cell 0, by omega, hlt, _, ha3, (E[k]).a, 1024, 1024, fun w' kz => by rw [Int.toNat_natCast, add_at]; exact kz.cell hc5 id, ?_⟩
  have hs6 := hs5.fr fd trivial
  refine convert_bytes (e := T_uint8) (by kernel_rfl) (by kernel_rfl) (by kernel_rfl) hs6.sl.rd (fillB_len k) (fun hh => by rw [hh] at hae; cases hae) fun z1 hz1 => ⟨z1, rfl, kd, by omega, hlt, _, ha4, ?_⟩
  refine slt_put (hz5.fr fd trivial) ha4 (i := k) (by omega) (by rw [Int.toNat_natCast, add_at]) fun w7 hz7 f7 => ?_
  have fd' : Fro (fun _ => True) w5 ow2 w5.drew ow2 := fd
  have f57 : Fro (fun t => t ≠ 4) w5 ow2 w7 ow2 := (fd.mono fun _ _ => trivial).trans f7
  have f27 : Fro (fun t => t ≠ 100 + k ∧ t ≠ 4) w2 ow2 w7 ow2 := (f5.mono fun t ht => ht.1).trans (f57.mono fun t ht => ht.2)
  have hz7' : SlT w7 ow2 T_string 1 A.sa E.length A.sc ((Z.set k z1).map Value.string) 4 := by rw [List.map_set]; exact hz7
  have hs7 := hs5.fr f57 (by omega)
  have hS7 : MkS w0 w7 ow2 lb b1 A E Q := hL.s.frX f27 (by omega) (by omega) (by omega) (by omega) hL.s.t1
  have hb17 := (blk_fr hL.b1 hL.s.t1 f27 (by omega)).1
  refine m10 (by omega) hk hS7.b hS7.bt hS7.l3 hs7 hb17 hS7.t1 (hL.m.fr f27 (by omega)) fun a13 c13 a12 c12 w12 ow12 hb112 hm12 hM12 f12 ht12 => ?_
  have hS12 := hS7.frX f12 (by omega) (by omega) (by omega) (by omega) ht12
  have f212 : Fro (fun t => t ≠ 100 + k ∧ t ≠ 4 ∧ t ≠ 20 ∧ t ≠ 21) w2 ow2 w12 ow12 := (f27.mono fun t ht => ⟨ht.1, ht.2.1⟩).trans (f12.mono fun t ht => ht.2.2)
  have hzk : k < (Z.set k z1).length := by have := hL.zl; simp; omega
  refine m11 (by omega) (by have := hL.zl; simp; omega) hzk hS12.b hS12.bt (hz7'.fr f12 (by omega)) (by rw [List.getElem_set_self]; exact hz1) hb112 hS12.t1 (hL.y.fr f212 (by omega)) fun a16 c16 z w17 ow17 hb117 hy17 hz17 f17 ht17 => ?_
  have f217 : Fro (fun t => t ≠ 100 + k ∧ t ≠ 4 ∧ t ≠ 20 ∧ t ≠ 21 ∧ t ≠ 22) w2 ow2 w17 ow17 := (f212.mono fun t ht => ⟨ht.1, ht.2.1, ht.2.2.1, ht.2.2.2.1⟩).trans (f17.mono fun t ht => ⟨ht.2.2.1, ht.2.2.2.2⟩)
  have f717 : Fro (fun t => t ≠ 20 ∧ t ≠ 21 ∧ t ≠ 22) w7 ow2 w17 ow17 := (f12.mono fun t ht => ⟨ht.1, ht.2.1⟩).trans (f17.mono fun t ht => ⟨ht.1, ht.2.2⟩)
  have ml := hL.ml
  have yl := hL.yl
  have zl := hL.zl
  have f27' : Fro (fun t => t ≠ 4 ∧ (t < 100 ∨ 200 ≤ t)) w2 ow2 w7 ow2 := f27.mono fun t ht => ⟨by omega, ht.1⟩
  have eb : EBi w17 ow17 E (k + 1) := by
    have e1 := hL.e.step hk f5 hs5
    have f517 : Fro (fun t => t ≠ 4 ∧ t ≠ 20 ∧ t ≠ 21 ∧ t ≠ 22) w5 ow2 w17 ow17 := (f57.mono fun t ht => ht.1).trans (f717.mono fun t ht => ht.2)
    exact e1.fr f517 (fun k' hk' => ⟨by omega, by omega, by omega, by omega⟩)
  have em : EMi w17 ow17 (M ++ [(a12, c12)]) := by
    refine EMi.snoc (hL.em.fr f217 fun k' hk' => ⟨by omega, by omega, by omega, by omega, by omega⟩) ?_
    rw [ml]
    exact hM12.fr f17 (by omega)
  refine ⟨⟨k + 1, ow17, a13, c13, a16, c16, M ++ [(a12, c12)], Y ++ [z], Z.set k z1, rfl, by omega, ⟨hS12.frX f17 (by omega) (by omega) (by omega) (by omega) ht17, eb, by simp [zl], hz7'.fr f717 (by omega), ?_, by simp [ml], by simp [yl], hb117, ?_, ?_, em, ?_⟩, hp2.fr f217 fun k' hk' => ⟨by omega, by omega, by omega, by omega, by omega⟩⟩, by simp only [Int.toNat_natCast]; omega⟩
  · intro k' hk' hlt2
    by_cases he : k' = k
    · subst he; rw [List.getElem_set_self]; exact hz1
    · rw [List.getElem_set_ne (by omega)]; exact hL.zv k' (by simpa using hk') (by omega)
  · rw [List.map_append]
    exact hm12.fr f17 (by omega)
  · rw [List.map_append]
    exact hy17
  · intro k' hk'
    by_cases hl : k' < Y.length
    · rw [List.getElem_append_left hl]; exact hL.ev k' hl
    · have hke2 : k' = Y.length := by rw [List.length_append] at hk'; simp at hk'; omega
      subst hke2
      rw [List.getElem_append_right (Nat.le_refl _)]
      simp only [Nat.sub_self, List.getElem_cons_zero]
      rw [yl]
      exact hz17
end Go.Proofs.YtnkdonpammdldaaDoor

/- The second loop of 'mark': the elements of the pages' lists. Conditions: none. -/
set_option linter.unusedVariables false
set_option linter.unusedSimpArgs false
namespace Go.Proofs.YtnkdonpammdldaaDoor
open Go Go.RowKit

theorem slt_put5 {w : World} {ow : Nat → Nat} {a : Option Addr} {b l c k t : Nat} {L : List CL} (h : SlT w ow T_api_Counter 5 a l c (fC L) t) (ha : a = some ⟨b, 0, none⟩) (hk : k < l) (x : CL) {n : Int} (hn : n = (k : Int)) {K : World → Prop}
    (hK : ∀ w', SlT w' ow T_api_Counter 5 a l c (fC (L.set k x)) t → Fro (fun u => u ≠ t) w ow w' ow → K w') :
    StF w ((⟨b, 0, none⟩ : Addr).add (Int.toNat n * 5)) (.int .i64 x.id) fun w1 => StF w1 (Addr.add ((⟨b, 0, none⟩ : Addr).add (Int.toNat n * 5)) 1) (.int .i64 x.grp) fun w2 => StF w2 (Addr.add ((⟨b, 0, none⟩ : Addr).add (Int.toNat n * 5)) 2) (.int .i64 x.lo) fun w3 =>
      StF w3 (Addr.add ((⟨b, 0, none⟩ : Addr).add (Int.toNat n * 5)) 3) (.int .i64 x.hi) fun w4 => StF w4 (Addr.add ((⟨b, 0, none⟩ : Addr).add (Int.toNat n * 5)) 4) (.int .i64 x.val) K := by
  subst ha
  exact h.sl.put5 hk x hn fun w' hs' k' s' => hK w' ⟨hs', h.tg⟩ (Fro.of_kp' k' fun b' _ hb' hne => hne (h.tg b' hb'))
theorem slt_put2 {w : World} {ow : Nat → Nat} {a : Option Addr} {b l c k t : Nat} {L : List GL} (h : SlT w ow T_api_Group 2 a l c (fG L) t) (ha : a = some ⟨b, 0, none⟩) (hk : k < l) (x : GL) {n : Int} (hn : n = (k : Int)) {K : World → Prop}
    (hK : ∀ w', SlT w' ow T_api_Group 2 a l c (fG (L.set k x)) t → Fro (fun u => u ≠ t) w ow w' ow → K w') :
    StF w ((⟨b, 0, none⟩ : Addr).add (Int.toNat n * 2)) (.int .i64 x.id) fun w1 => StF w1 (Addr.add ((⟨b, 0, none⟩ : Addr).add (Int.toNat n * 2)) 1) (.int .i64 x.sum) K := by
  subst ha
  exact h.sl.put2 hk x hn fun w' hs' k' s' => hK w' ⟨hs', h.tg⟩ (Fro.of_kp' k' fun b' _ hb' hne => hne (h.tg b' hb'))
theorem EPi.step {w w' : World} {ow ow' : Nat → Nat} {Q : List PE} {i : Nat} (h : EPi w ow Q i) (hi : i < Q.length) (f : Fro (fun t => t ≠ 1000 + 2 * i ∧ t ≠ 1001 + 2 * i) w ow w' ow') (hs : OwT w' ow' (Q[i]).p (mkCs (-(i : Int)) (Q[i]).p.cl 0) (mkGs (-(i : Int)) (Q[i]).p.gl 0) (1000 + 2 * i) (1001 + 2 * i)) : EPi w' ow' Q (i + 1) := by
  intro k hk
  by_cases hki : k = i
  · subst hki
    rw [if_pos (by omega), if_pos (by omega)]
    exact hs
  · have := (h k hk).fr f (by omega) (by omega)
    by_cases hl : k < i
    · rw [if_pos hl, if_pos hl] at this
      rw [if_pos (by omega), if_pos (by omega)]
      exact this
    · rw [if_neg hl, if_neg hl] at this
      rw [if_neg (by omega), if_neg (by omega)]
      exact this
theorem mkCs_at (i : Int) {n k : Nat} (h : k < n) (hx : k < (mkCs i n 0).length) : (mkCs i n 0)[k] = ⟨i, 0, 0, 0, (k : Int)⟩ := by
  have : ¬ n ≤ k := by omega
  simp [mkCs, this]
theorem mkGs_at (i : Int) {n k : Nat} (h : k < n) (hx : k < (mkGs i n 0).length) : (mkGs i n 0)[k] = ⟨i, (k : Int)⟩ := by
  have : ¬ n ≤ k := by omega
  simp [mkGs, this]

set_option maxRecDepth 100000 in
theorem mark_l2 {w0 w : World} {ow : Nat → Nat} {lb b1 i : Nat} {A : LA} {E : List BE} {Q : List PE} {mb : Option Addr} {mc : Nat} {ms : Option Addr} {msc : Nat} {third : Value} {M : List (Option Addr × Nat)} {Y Z : List ByteArray} {K24 : Unit → World → Prop}
    (h1 : L1 w0 w ow lb b1 A E Q i mb mc ms msc third M Y Z) (hp : EPi w ow Q 0) (hen : E.length ≤ 100) (hqn : Q.length ≤ 200) (hi : i ≤ 100)
    (h : ∀ w' ow', L1 w0 w' ow' lb b1 A E Q i mb mc ms msc third M Y Z → EPi w' ow' Q Q.length → K24 () w') :
    (LoopF (S := Int × Unit) ((0 : Int), ()) w fun s13 w19 Next13 => ∀ _J : Env, (NilF (some ⟨lb, 0, none⟩) fun d15 => (∃ (a17 : Option Addr) (l17 c17 : Nat), w19.cell? (Addr.add d15 2) = some (.slice a17 l17 c17) ∧ (cond (decide (s13.1 < ((l17 : Nat) : Int))) (NilF (some ⟨lb, 0, none⟩) fun d16 => (∃ (a18 : Option Addr) (l18 c18 : Nat), w19.cell? (Addr.add d16 2) = some (.slice a18 l18 c18) ∧ (IdxF a18 s13.1 l18 fun d17 => (∃ (n1 : Int) (n2 : Int) (a19 : Option Addr) (l19 c19 : Nat) (a20 : Option Addr) (l20 c20 : Nat), (w19.cell? (d17.add (Int.toNat s13.1 * 4)) = some (.int .i64 n1) ∧ w19.cell? (Addr.add (d17.add (Int.toNat s13.1 * 4)) 1) = some (.int .i64 n2) ∧ w19.cell? (Addr.add (d17.add (Int.toNat s13.1 * 4)) 2) = some (.slice a19 l19 c19) ∧ w19.cell? (Addr.add (d17.add (Int.toNat s13.1 * 4)) 3) = some (.slice a20 l20 c20) ∧ True) ∧ (AlF w19 (.cells #[(.int .i64 (0 : Int)), (.int .i64 (0 : Int)), (.slice none 0 0), (.slice none 0 0)] T_page_Page) fun b6 w20 => (StF w20 ⟨b6, 0, none⟩ (.int .i64 n1) fun w21 => (StF w21 (Addr.add ⟨b6, 0, none⟩ 1) (.int .i64 n2) fun w22 => (StF w22 (Addr.add ⟨b6, 0, none⟩ 2) (.slice a19 l19 c19) fun w23 => (StF w23 (Addr.add ⟨b6, 0, none⟩ 3) (.slice a20 l20 c20) fun w24 => (JoinF (S := Unit) (fun K20 => (LoopF (S := Int × Unit) ((0 : Int), ()) w24 fun s17 w25 Next17 => ∀ _J : Env, (∃ (a21 : Option Addr) (l21 c21 : Nat), w25.cell? (Addr.add ⟨b6, 0, none⟩ 2) = some (.slice a21 l21 c21) ∧ (cond (decide (s17.1 < ((l21 : Nat) : Int))) (∃ (a22 : Option Addr) (l22 c22 : Nat), w25.cell? (Addr.add ⟨b6, 0, none⟩ 2) = some (.slice a22 l22 c22) ∧ (IdxF a22 s17.1 l22 fun d18 => (StF w25 (d18.add (Int.toNat s17.1 * 5)) (.int .i64 (IntKind.wrap .i64 (0 - s13.1))) fun w26 => (StF w26 (Addr.add (d18.add (Int.toNat s17.1 * 5)) 1) (.int .i64 (0 : Int)) fun w27 => (StF w27 (Addr.add (d18.add (Int.toNat s17.1 * 5)) 2) (.int .i64 (0 : Int)) fun w28 => (StF w28 (Addr.add (d18.add (Int.toNat s17.1 * 5)) 3) (.int .i64 (0 : Int)) fun w29 => (StF w29 (Addr.add (d18.add (Int.toNat s17.1 * 5)) 4) (.int .i64 s17.1) fun w30 => (Next17 ((IntKind.wrap .i64 (s17.1 + (1 : Int))), ()) w30)))))))) (K20 () w25))))) (fun _s20 w31 => ∀ _J : Env, (LoopF (S := Int × Unit) ((0 : Int), ()) w31 fun s21 w32 Next21 => ∀ _J : Env, (∃ (a23 : Option Addr) (l23 c23 : Nat), w32.cell? (Addr.add ⟨b6, 0, none⟩ 3) = some (.slice a23 l23 c23) ∧ (cond (decide (s21.1 < ((l23 : Nat) : Int))) (∃ (a24 : Option Addr) (l24 c24 : Nat), w32.cell? (Addr.add ⟨b6, 0, none⟩ 3) = some (.slice a24 l24 c24) ∧ (IdxF a24 s21.1 l24 fun d19 => (StF w32 (d19.add (Int.toNat s21.1 * 2)) (.int .i64 (IntKind.wrap .i64 (0 - s13.1))) fun w33 => (StF w33 (Addr.add (d19.add (Int.toNat s21.1 * 2)) 1) (.int .i64 s21.1) fun w34 => (Next21 ((IntKind.wrap .i64 (s21.1 + (1 : Int))), ()) w34))))) (Next13 ((IntKind.wrap .i64 (s13.1 + (1 : Int))), ()) w32))))))))))))))) (K24 () w19))))) := by
  refine loopN (fun s w' => ∃ (k : Nat) (ow' : Nat → Nat), s.1 = (k : Int) ∧ k ≤ Q.length ∧ L1 w0 w' ow' lb b1 A E Q i mb mc ms msc third M Y Z ∧ EPi w' ow' Q k) (fun s _ => Q.length - s.1.toNat) ⟨0, ow, rfl, by omega, h1, hp⟩ ?_
  rintro ⟨k0, u⟩ w2 ⟨k, ow2, hk0, hke, hL, hp2⟩ _
  dsimp only at hk0 ⊢
  subst hk0
  have hlb2 : ∀ w', Blk w' lb (A.cs E.length Q.length) T_quotalaw07_Lists → w'.cell? (Addr.add ⟨lb, 0, none⟩ 2) = some (.slice A.pa Q.length A.pc) := fun w' hb => by rw [add_at]; exact hb.cell 2
  refine ⟨_, _, _, hlb2 _ hL.s.b, cond_d (fun hlt => ?_) (fun hge => ?_)⟩
  rotate_left
  · have hke' : k = Q.length := by omega
    subst hke'
    exact h w2 ow2 hL hp2
  have hk : k < Q.length := by omega
  have hkw : IntKind.wrap .i64 ((k : Int) + 1) = ((k + 1 : Nat) : Int) := by rw [wrap_i64 (by omega) (by omega)]; omega
  have ei : IntKind.wrap .i64 (0 - (k : Int)) = -(k : Int) := by rw [wrap_i64 (by omega) (by omega)]; omega
  rw [hkw, ei]
  have hOk := hp2 k hk
  rw [if_neg (by omega), if_neg (by omega)] at hOk
  generalize hPe : (Q[k]).p = p at *
  refine ⟨_, _, _, hlb2 _ hL.s.b, ?_⟩
  refine pgI ppV_len hL.s.l5.sl.rd hk rfl rfl (p := p) (by rw [← hPe]; rfl) fun b o ha hc => ⟨_, _, _, _, _, _, _, _, pg_cells rfl hc, ?_⟩
  refine AlF.intro fun b6 w20 hb6e hb6 k20 s20 => st4 hb6 rfl fun w24 hb24 k24 s24 => ?_
  have hb24' : Blk w24 b6 p.cs T_page_Page := hb24
  have f20 : Fro (fun _ => True) w2 ow2 w20 (ext ow2 w2.heap.size 1) := Fro.of_kp0 1 k20
  have h6 : ext ow2 w2.heap.size 1 b6 = 1 := ext_new (by omega)
  have f24 : Fro (fun t => t ≠ 1) w2 ow2 w24 (ext ow2 w2.heap.size 1) := (f20.mono fun _ _ => trivial).trans (Fro.of_kp' k24 fun b' _ hb' hne => hne (by rw [hb']; exact h6))
  generalize ext ow2 w2.heap.size 1 = ow4 at *
  have hO4 := hOk.fr f24 (by omega) (by omega)
  have hlc : (Q[k]).cs.length = p.cl := hO4.own.cl
  have hlg : (Q[k]).gs.length = p.gl := hO4.own.gl
  have cb := hO4.own.cb
  have gb := hO4.own.gb
  refine ⟨fun _ w' => SlT w' ow4 T_api_Counter 5 p.ca p.cl p.cc (fC (mkCs (-(k : Int)) p.cl 0)) (1000 + 2 * k) ∧ Fro (fun t => t ≠ 1000 + 2 * k) w24 ow4 w' ow4, ?_, ?_⟩
  · refine loopN (fun s w' => ∃ j : Nat, s.1 = (j : Int) ∧ j ≤ p.cl ∧ SlT w' ow4 T_api_Counter 5 p.ca p.cl p.cc (fC ((mkCs (-(k : Int)) p.cl 0).take j ++ (Q[k]).cs.drop j)) (1000 + 2 * k) ∧ Fro (fun t => t ≠ 1000 + 2 * k) w24 ow4 w' ow4) (fun s _ => p.cl - s.1.toNat)
      ⟨0, rfl, by omega, by simpa using (⟨hO4.own.c, hO4.tc⟩ : SlT w24 ow4 T_api_Counter 5 p.ca p.cl p.cc (fC (Q[k]).cs) (1000 + 2 * k)), ⟨Kp.refl _ _, fun _ _ _ => rfl⟩⟩ ?_
    rintro ⟨j0, u'⟩ w3 ⟨j, hj0, hj, hs3, f3⟩ _
    dsimp only at hj0 ⊢
    subst hj0
    have hb3 := (blk_fr hb24' h6 f3 (by omega)).1
    refine ⟨_, _, _, pc2 hb3, cond_d (fun hlt' => ?_) (fun hge' => ?_)⟩
    · have hjw : IntKind.wrap .i64 ((j : Int) + 1) = ((j + 1 : Nat) : Int) := by rw [wrap_i64 (by omega) (by omega)]; omega
      rw [hjw]
      obtain ⟨bc, cur, hae, _⟩ := hs3.sl.addr (by omega)
      refine ⟨_, _, _, pc2 hb3, by omega, hlt', _, hae, ?_⟩
      refine slt_put5 hs3 hae (k := j) (by omega) ⟨-(k : Int), 0, 0, 0, (j : Int)⟩ rfl fun w4 hs4 f4 => ?_
      refine ⟨⟨j + 1, rfl, by omega, ?_, f3.trans f4⟩, by simp only [Int.toNat_natCast]; omega⟩
      rw [half_set (by rw [mkCs_len]; omega) (by rw [mkCs_len, hlc]) (mkCs_at _ (by omega) _)] at hs4
      exact hs4
    · have hj' : j = p.cl := by omega
      subst hj'
      refine ⟨?_, f3⟩
      rw [List.take_of_length_le (by rw [mkCs_len]; omega), List.drop_eq_nil_of_le (by omega), List.append_nil] at hs3
      exact hs3
  rintro u5 w5 ⟨hs5, f5⟩ _
  have hg5 : SlT w5 ow4 T_api_Group 2 p.ga p.gl p.gc (fG (Q[k]).gs) (1001 + 2 * k) := (⟨hO4.own.g, hO4.tg⟩ : SlT w24 ow4 T_api_Group 2 p.ga p.gl p.gc (fG (Q[k]).gs) (1001 + 2 * k)).fr f5 (by omega)
  refine loopN (fun s w' => ∃ j : Nat, s.1 = (j : Int) ∧ j ≤ p.gl ∧ SlT w' ow4 T_api_Group 2 p.ga p.gl p.gc (fG ((mkGs (-(k : Int)) p.gl 0).take j ++ (Q[k]).gs.drop j)) (1001 + 2 * k) ∧ Fro (fun t => t ≠ 1001 + 2 * k) w5 ow4 w' ow4) (fun s _ => p.gl - s.1.toNat)
      ⟨0, rfl, by omega, by simpa using hg5, ⟨Kp.refl _ _, fun _ _ _ => rfl⟩⟩ ?_
  rintro ⟨j0, u'⟩ w3 ⟨j, hj0, hj, hs3, f3⟩ _
  dsimp only at hj0 ⊢
  subst hj0
  have f43 : Fro (fun t => t ≠ 1000 + 2 * k ∧ t ≠ 1001 + 2 * k) w24 ow4 w3 ow4 := (f5.mono fun t ht => ht.1).trans (f3.mono fun t ht => ht.2)
  have hb3 := (blk_fr hb24' h6 f43 (by omega)).1
  refine ⟨_, _, _, pc3 hb3, cond_d (fun hlt' => ?_) (fun hge' => ?_)⟩
  · have hjw : IntKind.wrap .i64 ((j : Int) + 1) = ((j + 1 : Nat) : Int) := by rw [wrap_i64 (by omega) (by omega)]; omega
    rw [hjw]
    obtain ⟨bc, cur, hae, _⟩ := hs3.sl.addr (by omega)
    refine ⟨_, _, _, pc3 hb3, by omega, hlt', _, hae, ?_⟩
    refine slt_put2 hs3 hae (k := j) (by omega) ⟨-(k : Int), (j : Int)⟩ rfl fun w4 hs4 f4 => ?_
    refine ⟨⟨j + 1, rfl, by omega, ?_, f3.trans f4⟩, by simp only [Int.toNat_natCast]; omega⟩
    rw [half_set (by rw [mkGs_len]; omega) (by rw [mkGs_len, hlg]) (mkGs_at _ (by omega) _)] at hs4
    exact hs4
  · have hj' : j = p.gl := by omega
    subst hj'
    rw [List.take_of_length_le (by rw [mkGs_len]; omega), List.drop_eq_nil_of_le (by omega), List.append_nil] at hs3
    have f23 : Fro (fun t => t ≠ 1 ∧ t ≠ 1000 + 2 * k ∧ t ≠ 1001 + 2 * k) w2 ow2 w3 ow4 := (f24.mono fun t ht => ht.1).trans (f43.mono fun t ht => ht.2)
    have hs5' := hs5.fr f3 (by omega)
    have fe : ∀ t, t < 1000 → t ≠ 1 → t ≠ 23 → (t ≠ 1 ∧ t ≠ 1000 + 2 * k ∧ t ≠ 1001 + 2 * k) := fun t ht h1 h2 => ⟨h1, by omega, by omega⟩
    have eb := EPi.step (w' := w3) (ow' := ow4) ((fun k' hk' => (hp2 k' hk').fr f24 (by omega) (by omega) : EPi w24 ow4 Q k)) hk f43 (by rw [hPe]; exact ⟨⟨hs5'.sl, cb, hs3.sl, gb⟩, hs5'.tg, hs3.tg⟩)
    exact ⟨⟨k + 1, ow4, rfl, by omega, hL.fr f23 fe hen hi, eb⟩, by simp only [Int.toNat_natCast]; omega⟩
end Go.Proofs.YtnkdonpammdldaaDoor

/- The third loop of 'mark': each page made longer. Conditions: none. -/
set_option linter.unusedVariables false
set_option linter.unusedSimpArgs false
namespace Go.Proofs.YtnkdonpammdldaaDoor
open Go Go.RowKit

structure L3 (w0 w : World) (ow : Nat → Nat) (lb b1 : Nat) (A : LA) (E : List BE) (Q : List PE) (i : Nat) (mb : Option Addr) (mc : Nat) (ms : Option Addr) (msc : Nat) (M : List (Option Addr × Nat)) (Y Z : List ByteArray) (k : Nat) (mp : Option Addr) (mpc : Nat) (N : List PgV) : Prop where
  l : L1 w0 w ow lb b1 A E Q i mb mc ms msc (.slice mp k mpc) M Y Z
  p : EPi w ow Q Q.length
  nl : N.length = k
  n : ENi w ow N
  s : SlT w ow T_page_Page 4 mp k mpc (flatV (fun q : PgV => q.cs.toList) N) 23
section
variable {T : Nat → Prop} {w0 w w' w41 : World} {ow ow' : Nat → Nat} {lb b1 i : Nat} {A : LA} {E : List BE} {Q : List PE} {mb : Option Addr} {mc : Nat} {ms : Option Addr} {msc : Nat} {M : List (Option Addr × Nat)} {Y Z : List ByteArray} {k : Nat} {mp : Option Addr} {mpc : Nat} {N : List PgV}
theorem L3.fr (h : L3 w0 w ow lb b1 A E Q i mb mc ms msc M Y Z k mp mpc N) (f : Fro (fun t => t ≠ 1) w ow w' ow') (hE : E.length ≤ 100) (hi : i ≤ 100) : L3 w0 w' ow' lb b1 A E Q i mb mc ms msc M Y Z k mp mpc N :=
  ⟨h.l.fr f (fun t _ h1 _ => h1) hE hi, h.p.fr f (fun k => by omega), h.nl, h.n.fr f (fun k _ => by omega), h.s.fr f (by omega)⟩
theorem L1.fr3 {third third' : Value} (h : L1 w0 w ow lb b1 A E Q i mb mc ms msc third M Y Z) (f : Fro T w ow w' ow') (hT : ∀ t, t < 1000 → t ≠ 1 → t ≠ 20 → t ≠ 23 → T t) (hE : E.length ≤ 100) (hi : i ≤ 100)
    (hb1 : Blk w' b1 #[.slice mb i mc, .slice ms i msc, third', .slice none 0 0] T_quotalaw07_Lists) (ht1 : ow' b1 = 20) : L1 w0 w' ow' lb b1 A E Q i mb mc ms msc third' M Y Z :=
  ⟨h.s.frX f (hT _ (by omega) (by omega) (by omega) (by omega)) (hT _ (by omega) (by omega) (by omega) (by omega)) (hT _ (by omega) (by omega) (by omega) (by omega)) (hT _ (by omega) (by omega) (by omega) (by omega)) ht1, h.e.fr f (fun k hk => hT _ (by omega) (by omega) (by omega) (by omega)), h.zl, h.z.fr f (hT _ (by omega) (by omega) (by omega) (by omega)), h.zv, h.ml, h.yl, hb1, h.m.fr f (hT _ (by omega) (by omega) (by omega) (by omega)), h.y.fr f (hT _ (by omega) (by omega) (by omega) (by omega)), h.em.fr f (fun k hk => hT _ (by have := h.ml; omega) (by omega) (by omega) (by omega)), h.ev⟩
theorem EPi.keep {n j : Nat} (h : EPi w ow Q n) (hj : j < n) (hjq : j < Q.length) (f : Fro (fun t => t ≠ 1 ∧ t ≠ 20 ∧ t ≠ 23 ∧ t ≠ 1000 + 2 * j ∧ t ≠ 1001 + 2 * j) w ow w' ow') (hs : OwT w' ow' (Q[j]).p (mkCs (-(j : Int)) (Q[j]).p.cl 0) (mkGs (-(j : Int)) (Q[j]).p.gl 0) (1000 + 2 * j) (1001 + 2 * j)) : EPi w' ow' Q n := by
  intro k hk
  by_cases hkj : k = j
  · subst hkj
    rw [if_pos hj, if_pos hj]
    exact hs
  · exact (h k hk).fr f (by omega) (by omega)
theorem ENi.snoc {q : PgV} (h : ENi w ow N) (hs : OwT w ow q (mkCs (-(N.length : Int)) q.cl 1) (mkGs (-(N.length : Int)) q.gl 1) (1000 + 2 * N.length) (1001 + 2 * N.length)) : ENi w ow (N ++ [q]) := by
  intro k hk
  by_cases hl : k < N.length
  · rw [List.getElem_append_left hl]; exact h k hl
  · have hke : k = N.length := by rw [List.length_append] at hk; simp at hk; omega
    subst hke
    rw [List.getElem_append_right (Nat.le_refl _)]
    simp only [Nat.sub_self, List.getElem_cons_zero]
    exact hs
/-- The owners behind a page's two appends. -/
theorem leaf3 {p : PgV} {L : List CL} {G : List GL} {x : CL} {g : GL} {b bc bg t u : Nat} {a31 a32 : Option Addr} {c31 c32 : Nat} (hX : XS w41 p L G x g w (some bc) (some bg) (some b) (some (a31, c31)) (some (a32, c32)))
    (hO : OwT w41 ow p L G t u) (htu : t ≠ u) : ∃ owL, Fro (fun v => v ≠ t ∧ v ≠ u) w41 ow w owL ∧ owL b = 1 ∧ OwT w owL p L G t u ∧ SlT w owL T_api_Counter 5 a31 (p.cl + 1) c31 (fC (L ++ [x])) t ∧ SlT w owL T_api_Group 2 a32 (p.gl + 1) c32 (fG (G ++ [g])) u := by
  obtain ⟨hc1, hc2, hc3⟩ := hX.lc1 a31 c31 rfl
  obtain ⟨hg1, hg2, hg3⟩ := hX.lg1 a32 c32 rfl
  have hcr := hX.cross a31 c31 a32 c32 rfl rfl
  have oc := hX.oc_
  have og := hX.og_
  have hpb := (hX.hp b rfl).2
  have ag : ∀ j, j < w41.heap.size → tag (Is a31) t (tag (Is a32) u (ext ow w41.heap.size 1)) j = ow j := fun j hj => by
    by_cases h1 : Is a31 j
    · rw [tag_in h1]
      rcases hc2 j h1 with h | h
      · exact (hO.tc j h).symm
      · omega
    · rw [tag_out h1]
      by_cases h2 : Is a32 j
      · rw [tag_in h2]
        rcases hg2 j h2 with h | h
        · exact (hO.tg j h).symm
        · omega
      · rw [tag_out h2, ext_old hj]
  refine ⟨tag (Is a31) t (tag (Is a32) u (ext ow w41.heap.size 1)), ⟨hX.kp.mono fun j _ hj hT => ?_, fun j hj _ => ag j hj⟩, ?_, ⟨⟨hX.lc0, hO.own.cb, hX.lg0, hO.own.gb⟩, fun j hj => ?_, fun j hj => ?_⟩, ⟨hc1, fun j hj => tag_in hj⟩, ⟨hg1, fun j hj => ?_⟩⟩
  · rcases hj with hj | hj
    · exact hT.1 (hO.tc j hj)
    · exact hT.2 (hO.tg j hj)
  · rw [tag_out (hc3 b rfl), tag_out (hg3 b rfl), ext_new hpb]
  · rw [ag j (oc j hj), hO.tc j hj]
  · rw [ag j (og j hj), hO.tg j hj]
  · rw [tag_out fun hh => hcr j hh hj, tag_in hj]
theorem leafT {p : PgV} {b bc bg : Nat} {a31 a32 : Option Addr} {c31 c32 : Nat} {K : World → Prop} (h3 : L3 w0 w41 ow lb b1 A E Q i mb mc ms msc M Y Z k mp mpc N) (hk : k < Q.length) (hp : (Q[k]).p = p) (hEn : E.length ≤ 100) (hi : i ≤ 100) (hqn : Q.length ≤ 200) (hb41 : b1 < w41.heap.size) (hpb : p.cl ≤ 990 ∧ p.gl ≤ 990)
    (hX : XS w41 p (mkCs (-(k : Int)) p.cl 0) (mkGs (-(k : Int)) p.gl 0) ⟨-(k : Int), 0, 0, 0, 0⟩ ⟨-(k : Int), 0⟩ w (some bc) (some bg) (some b) (some (a31, c31)) (some (a32, c32)))
    (h : ∀ w' ow' mp' mpc' N', L3 w0 w' ow' lb b1 A E Q i mb mc ms msc M Y Z (k + 1) mp' mpc' N' → K w') :
    StF w ⟨b, 0, none⟩ (.int .i64 p.num) fun w47 => StF w47 (Addr.add ⟨b, 0, none⟩ 1) (.int .i64 p.lsn) fun w48 => StF w48 (Addr.add ⟨b, 0, none⟩ 2) (.slice a31 (p.cl + 1) c31) fun w49 => StF w49 (Addr.add ⟨b, 0, none⟩ 3) (.slice a32 (p.gl + 1) c32) fun w50 =>
      ∃ (a33 : Option Addr) (l33 c33 : Nat), w50.cell? (Addr.add ⟨b1, 0, none⟩ 2) = some (.slice a33 l33 c33) ∧
      (∃ (n7 : Int) (n8 : Int) (a34 : Option Addr) (l34 c34 : Nat) (a35 : Option Addr) (l35 c35 : Nat), (w50.cell? ⟨b, 0, none⟩ = some (.int .i64 n7) ∧ w50.cell? (Addr.add ⟨b, 0, none⟩ 1) = some (.int .i64 n8) ∧ w50.cell? (Addr.add ⟨b, 0, none⟩ 2) = some (.slice a34 l34 c34) ∧ w50.cell? (Addr.add ⟨b, 0, none⟩ 3) = some (.slice a35 l35 c35) ∧ True) ∧
        (AlF w50 (.cells #[(.int .i64 n7), (.int .i64 n8), (.slice a34 l34 c34), (.slice a35 l35 c35)] T_page_Page) fun b11 w51 => (RunF Tryd.prog (Builtin.append_ #[T_s_page_Page, T_s_page_Page] T_s_page_Page #[(.slice a33 l33 c33), (.slice (some ⟨b11, 0, none⟩) 1 1)]) w51 fun r8 w52 => ∃ (a36 : Option Addr) (l36 c36 : Nat), r8 = (.slice a36 l36 c36) ∧ (StF w52 (Addr.add ⟨b1, 0, none⟩ 2) (.slice a36 l36 c36) K)))) := by
  have hO := h3.p k hk
  rw [if_pos hk, if_pos hk, hp] at hO
  obtain ⟨owL, fL, hbL, hOL, hcL, hgL⟩ := leaf3 hX hO (by omega)
  obtain ⟨hb1L, ht1L⟩ := blk_fr h3.l.b1 h3.l.s.t1 fL (by omega)
  have hbo := (hX.hp b rfl).2
  refine tail3 hX hb1L ht1L (by omega) h3.nl (by omega) (h3.s.fr fL (by omega)) (by omega) fun mp' mpc' w' ow' hb1' hs' f' ht' => ?_
  rw [hbL] at f'
  have fa : Fro (fun v => v ≠ 1 ∧ v ≠ 20 ∧ v ≠ 23 ∧ v ≠ 1000 + 2 * k ∧ v ≠ 1001 + 2 * k) w41 ow w' ow' := (fL.mono fun t ht => ⟨ht.2.2.2.1, ht.2.2.2.2⟩).trans (f'.mono fun t ht => ⟨ht.2.1, ht.2.2.1, ht.1⟩)
  have hOL' := hOL.fr f' (by omega) (by omega)
  have hcL' := hcL.fr f' (by omega)
  have hgL' := hgL.fr f' (by omega)
  have nl := h3.nl
  refine h w' ow' mp' mpc' (N ++ [⟨p.num, p.lsn, a31, p.cl + 1, c31, a32, p.gl + 1, c32⟩]) ⟨h3.l.fr3 fa (fun t h1 h2 h3 h4 => ⟨h2, h3, h4, by omega, by omega⟩) hEn hi hb1' ht', h3.p.keep hk hk fa (by rw [hp]; exact hOL'), by simp [nl], ?_, hs'⟩
  refine ENi.snoc (h3.n.fr fa fun j hj => ⟨by omega, by omega, by omega, by omega, by omega⟩) ?_
  rw [nl]
  have cb := hO.own.cb
  have gb := hO.own.gb
  refine ⟨⟨?_, ?_, ?_, ?_⟩, hcL'.tg, hgL'.tg⟩
  · rw [← mkCs_snoc]; exact hcL'.sl
  · show p.cl + 1 < _; omega
  · rw [← mkGs_snoc]; exact hgL'.sl
  · show p.gl + 1 < _; omega
end

set_option maxRecDepth 100000 in
set_option maxHeartbeats 4000000 in
theorem mark_l3 {w0 w : World} {ow : Nat → Nat} {lb b1 i : Nat} {A : LA} {E : List BE} {Q : List PE} {mb : Option Addr} {mc : Nat} {ms : Option Addr} {msc : Nat} {M : List (Option Addr × Nat)} {Y Z : List ByteArray} {KK : World → Prop}
    (h1 : L3 w0 w ow lb b1 A E Q i mb mc ms msc M Y Z 0 none 0 []) (hen : E.length ≤ 100) (hqn : Q.length ≤ 200) (hi : i ≤ 100) (hsm : ∀ e ∈ Q, e.cs.length ≤ 84 ∧ e.gs.length ≤ 84) (hpl : ∀ e ∈ Q, e.p.cl = e.cs.length ∧ e.p.gl = e.gs.length)
    (h : ∀ w' ow' mp mpc N, L3 w0 w' ow' lb b1 A E Q i mb mc ms msc M Y Z Q.length mp mpc N → KK w') :
    (LoopF (S := Int × Unit) ((0 : Int), ()) w fun s25 w36 Next25 => ∀ _J : Env, (NilF (some ⟨lb, 0, none⟩) fun d20 => (∃ (a25 : Option Addr) (l25 c25 : Nat), w36.cell? (Addr.add d20 2) = some (.slice a25 l25 c25) ∧ (cond (decide (s25.1 < ((l25 : Nat) : Int))) (NilF (some ⟨lb, 0, none⟩) fun d21 => (∃ (a26 : Option Addr) (l26 c26 : Nat), w36.cell? (Addr.add d21 2) = some (.slice a26 l26 c26) ∧ (IdxF a26 s25.1 l26 fun d22 => (∃ (n3 : Int) (n4 : Int) (a27 : Option Addr) (l27 c27 : Nat) (a28 : Option Addr) (l28 c28 : Nat), (w36.cell? (d22.add (Int.toNat s25.1 * 4)) = some (.int .i64 n3) ∧ w36.cell? (Addr.add (d22.add (Int.toNat s25.1 * 4)) 1) = some (.int .i64 n4) ∧ w36.cell? (Addr.add (d22.add (Int.toNat s25.1 * 4)) 2) = some (.slice a27 l27 c27) ∧ w36.cell? (Addr.add (d22.add (Int.toNat s25.1 * 4)) 3) = some (.slice a28 l28 c28) ∧ True) ∧ (AlF w36 (.cells #[(.int .i64 (0 : Int)), (.int .i64 (0 : Int)), (.slice none 0 0), (.slice none 0 0)] T_page_Page) fun b7 w37 => (StF w37 ⟨b7, 0, none⟩ (.int .i64 n3) fun w38 => (StF w38 (Addr.add ⟨b7, 0, none⟩ 1) (.int .i64 n4) fun w39 => (StF w39 (Addr.add ⟨b7, 0, none⟩ 2) (.slice a27 l27 c27) fun w40 => (StF w40 (Addr.add ⟨b7, 0, none⟩ 3) (.slice a28 l28 c28) fun w41 => (HeldF w41 fun S28 => (∃ (n5 : Int), (∀ w, S28 w → w.cell? ⟨b7, 0, none⟩ = some (.int .i64 n5)) ∧ (∃ (n6 : Int), (∀ w, S28 w → w.cell? (Addr.add ⟨b7, 0, none⟩ 1) = some (.int .i64 n6)) ∧ (∃ (a29 : Option Addr) (l29 c29 : Nat), (∀ w, S28 w → w.cell? (Addr.add ⟨b7, 0, none⟩ 2) = some (.slice a29 l29 c29)) ∧ (∃ (a30 : Option Addr) (l30 c30 : Nat), (∀ w, S28 w → w.cell? (Addr.add ⟨b7, 0, none⟩ 3) = some (.slice a30 l30 c30)) ∧ ((AlF w41.drew (.cells #[(.int .i64 (IntKind.wrap .i64 (0 - s25.1))), (.int .i64 (0 : Int)), (.int .i64 (0 : Int)), (.int .i64 (0 : Int)), (.int .i64 (0 : Int))] T_api_Counter) fun b8 w42 => (S28 w42 ∧ ((RunF Tryd.prog (Builtin.append_ #[T_s_api_Counter, T_s_api_Counter] T_s_api_Counter #[(.slice a29 l29 c29), (.slice (some ⟨b8, 0, none⟩) 1 1)]) w42 fun r6 w43 => ∃ (a31 : Option Addr) (l31 c31 : Nat), r6 = (.slice a31 l31 c31) ∧ (S28 w43 ∧ ((AlF w43 (.cells #[(.int .i64 (IntKind.wrap .i64 (0 - s25.1))), (.int .i64 (0 : Int))] T_api_Group) fun b9 w44 => (S28 w44 ∧ ((RunF Tryd.prog (Builtin.append_ #[T_s_api_Group, T_s_api_Group] T_s_api_Group #[(.slice a30 l30 c30), (.slice (some ⟨b9, 0, none⟩) 1 1)]) w44 fun r7 w45 => ∃ (a32 : Option Addr) (l32 c32 : Nat), r7 = (.slice a32 l32 c32) ∧ (S28 w45 ∧ (AlF w45 (.cells #[(.int .i64 (0 : Int)), (.int .i64 (0 : Int)), (.slice none 0 0), (.slice none 0 0)] T_page_Page) fun b10 w46 => (S28 w46 ∧ (StF w46 ⟨b10, 0, none⟩ (.int .i64 n5) fun w47 => (StF w47 (Addr.add ⟨b10, 0, none⟩ 1) (.int .i64 n6) fun w48 => (StF w48 (Addr.add ⟨b10, 0, none⟩ 2) (.slice a31 l31 c31) fun w49 => (StF w49 (Addr.add ⟨b10, 0, none⟩ 3) (.slice a32 l32 c32) fun w50 => (∃ (a33 : Option Addr) (l33 c33 : Nat), w50.cell? (Addr.add ⟨b1, 0, none⟩ 2) = some (.slice a33 l33 c33) ∧ (∃ (n7 : Int) (n8 : Int) (a34 : Option Addr) (l34 c34 : Nat) (a35 : Option Addr) (l35 c35 : Nat), (w50.cell? ⟨b10, 0, none⟩ = some (.int .i64 n7) ∧ w50.cell? (Addr.add ⟨b10, 0, none⟩ 1) = some (.int .i64 n8) ∧ w50.cell? (Addr.add ⟨b10, 0, none⟩ 2) = some (.slice a34 l34 c34) ∧ w50.cell? (Addr.add ⟨b10, 0, none⟩ 3) = some (.slice a35 l35 c35) ∧ True) ∧ (AlF w50 (.cells #[(.int .i64 n7), (.int .i64 n8), (.slice a34 l34 c34), (.slice a35 l35 c35)] T_page_Page) fun b11 w51 => (RunF Tryd.prog (Builtin.append_ #[T_s_page_Page, T_s_page_Page] T_s_page_Page #[(.slice a33 l33 c33), (.slice (some ⟨b11, 0, none⟩) 1 1)]) w51 fun r8 w52 => ∃ (a36 : Option Addr) (l36 c36 : Nat), r8 = (.slice a36 l36 c36) ∧ (StF w52 (Addr.add ⟨b1, 0, none⟩ 2) (.slice a36 l36 c36) fun w53 => (Next25 ((IntKind.wrap .i64 (s25.1 + (1 : Int))), ()) w53)))))))))))))) ∧ (AlF w44 (.cells #[(.int .i64 (0 : Int)), (.int .i64 (0 : Int)), (.slice none 0 0), (.slice none 0 0)] T_page_Page) fun b12 w54 => (S28 w54 ∧ (RunF Tryd.prog (Builtin.append_ #[T_s_api_Group, T_s_api_Group] T_s_api_Group #[(.slice a30 l30 c30), (.slice (some ⟨b9, 0, none⟩) 1 1)]) w54 fun r9 w55 => ∃ (a37 : Option Addr) (l37 c37 : Nat), r9 = (.slice a37 l37 c37) ∧ (S28 w55 ∧ (StF w55 ⟨b12, 0, none⟩ (.int .i64 n5) fun w56 => (StF w56 (Addr.add ⟨b12, 0, none⟩ 1) (.int .i64 n6) fun w57 => (StF w57 (Addr.add ⟨b12, 0, none⟩ 2) (.slice a31 l31 c31) fun w58 => (StF w58 (Addr.add ⟨b12, 0, none⟩ 3) (.slice a37 l37 c37) fun w59 => (∃ (a38 : Option Addr) (l38 c38 : Nat), w59.cell? (Addr.add ⟨b1, 0, none⟩ 2) = some (.slice a38 l38 c38) ∧ (∃ (n9 : Int) (n10 : Int) (a39 : Option Addr) (l39 c39 : Nat) (a40 : Option Addr) (l40 c40 : Nat), (w59.cell? ⟨b12, 0, none⟩ = some (.int .i64 n9) ∧ w59.cell? (Addr.add ⟨b12, 0, none⟩ 1) = some (.int .i64 n10) ∧ w59.cell? (Addr.add ⟨b12, 0, none⟩ 2) = some (.slice a39 l39 c39) ∧ w59.cell? (Addr.add ⟨b12, 0, none⟩ 3) = some (.slice a40 l40 c40) ∧ True) ∧ (AlF w59 (.cells #[(.int .i64 n9), (.int .i64 n10), (.slice a39 l39 c39), (.slice a40 l40 c40)] T_page_Page) fun b13 w60 => (RunF Tryd.prog (Builtin.append_ #[T_s_page_Page, T_s_page_Page] T_s_page_Page #[(.slice a38 l38 c38), (.slice (some ⟨b13, 0, none⟩) 1 1)]) w60 fun r10 w61 => ∃ (a41 : Option Addr) (l41 c41 : Nat), r10 = (.slice a41 l41 c41) ∧ (StF w61 (Addr.add ⟨b1, 0, none⟩ 2) (.slice a41 l41 c41) fun w62 => (Next25 ((IntKind.wrap .i64 (s25.1 + (1 : Int))), ()) w62))))))))))))))))) ∧ (AlF w43 (.cells #[(.int .i64 (0 : Int)), (.int .i64 (0 : Int)), (.slice none 0 0), (.slice none 0 0)] T_page_Page) fun b14 w63 => (S28 w63 ∧ (AlF w63 (.cells #[(.int .i64 (IntKind.wrap .i64 (0 - s25.1))), (.int .i64 (0 : Int))] T_api_Group) fun b15 w64 => (S28 w64 ∧ (RunF Tryd.prog (Builtin.append_ #[T_s_api_Group, T_s_api_Group] T_s_api_Group #[(.slice a30 l30 c30), (.slice (some ⟨b15, 0, none⟩) 1 1)]) w64 fun r11 w65 => ∃ (a42 : Option Addr) (l42 c42 : Nat), r11 = (.slice a42 l42 c42) ∧ (S28 w65 ∧ (StF w65 ⟨b14, 0, none⟩ (.int .i64 n5) fun w66 => (StF w66 (Addr.add ⟨b14, 0, none⟩ 1) (.int .i64 n6) fun w67 => (StF w67 (Addr.add ⟨b14, 0, none⟩ 2) (.slice a31 l31 c31) fun w68 => (StF w68 (Addr.add ⟨b14, 0, none⟩ 3) (.slice a42 l42 c42) fun w69 => (∃ (a43 : Option Addr) (l43 c43 : Nat), w69.cell? (Addr.add ⟨b1, 0, none⟩ 2) = some (.slice a43 l43 c43) ∧ (∃ (n11 : Int) (n12 : Int) (a44 : Option Addr) (l44 c44 : Nat) (a45 : Option Addr) (l45 c45 : Nat), (w69.cell? ⟨b14, 0, none⟩ = some (.int .i64 n11) ∧ w69.cell? (Addr.add ⟨b14, 0, none⟩ 1) = some (.int .i64 n12) ∧ w69.cell? (Addr.add ⟨b14, 0, none⟩ 2) = some (.slice a44 l44 c44) ∧ w69.cell? (Addr.add ⟨b14, 0, none⟩ 3) = some (.slice a45 l45 c45) ∧ True) ∧ (AlF w69 (.cells #[(.int .i64 n11), (.int .i64 n12), (.slice a44 l44 c44), (.slice a45 l45 c45)] T_page_Page) fun b16 w70 => (RunF Tryd.prog (Builtin.append_ #[T_s_page_Page, T_s_page_Page] T_s_page_Page #[(.slice a43 l43 c43), (.slice (some ⟨b16, 0, none⟩) 1 1)]) w70 fun r12 w71 => ∃ (a46 : Option Addr) (l46 c46 : Nat), r12 = (.slice a46 l46 c46) ∧ (StF w71 (Addr.add ⟨b1, 0, none⟩ 2) (.slice a46 l46 c46) fun w72 => (Next25 ((IntKind.wrap .i64 (s25.1 + (1 : Int))), ()) w72))))))))))))))))))) ∧ ((AlF w42 (.cells #[(.int .i64 (IntKind.wrap .i64 (0 - s25.1))), (.int .i64 (0 : Int))] T_api_Group) fun b17 w73 => (S28 w73 ∧ ((RunF Tryd.prog (Builtin.append_ #[T_s_api_Counter, T_s_api_Counter] T_s_api_Counter #[(.slice a29 l29 c29), (.slice (some ⟨b8, 0, none⟩) 1 1)]) w73 fun r13 w74 => ∃ (a47 : Option Addr) (l47 c47 : Nat), r13 = (.slice a47 l47 c47) ∧ (S28 w74 ∧ ((RunF Tryd.prog (Builtin.append_ #[T_s_api_Group, T_s_api_Group] T_s_api_Group #[(.slice a30 l30 c30), (.slice (some ⟨b17, 0, none⟩) 1 1)]) w74 fun r14 w75 => ∃ (a48 : Option Addr) (l48 c48 : Nat), r14 = (.slice a48 l48 c48) ∧ (S28 w75 ∧ (AlF w75 (.cells #[(.int .i64 (0 : Int)), (.int .i64 (0 : Int)), (.slice none 0 0), (.slice none 0 0)] T_page_Page) fun b18 w76 => (S28 w76 ∧ (StF w76 ⟨b18, 0, none⟩ (.int .i64 n5) fun w77 => (StF w77 (Addr.add ⟨b18, 0, none⟩ 1) (.int .i64 n6) fun w78 => (StF w78 (Addr.add ⟨b18, 0, none⟩ 2) (.slice a47 l47 c47) fun w79 => (StF w79 (Addr.add ⟨b18, 0, none⟩ 3) (.slice a48 l48 c48) fun w80 => (∃ (a49 : Option Addr) (l49 c49 : Nat), w80.cell? (Addr.add ⟨b1, 0, none⟩ 2) = some (.slice a49 l49 c49) ∧ (∃ (n13 : Int) (n14 : Int) (a50 : Option Addr) (l50 c50 : Nat) (a51 : Option Addr) (l51 c51 : Nat), (w80.cell? ⟨b18, 0, none⟩ = some (.int .i64 n13) ∧ w80.cell? (Addr.add ⟨b18, 0, none⟩ 1) = some (.int .i64 n14) ∧ w80.cell? (Addr.add ⟨b18, 0, none⟩ 2) = some (.slice a50 l50 c50) ∧ w80.cell? (Addr.add ⟨b18, 0, none⟩ 3) = some (.slice a51 l51 c51) ∧ True) ∧ (AlF w80 (.cells #[(.int .i64 n13), (.int .i64 n14), (.slice a50 l50 c50), (.slice a51 l51 c51)] T_page_Page) fun b19 w81 => (RunF Tryd.prog (Builtin.append_ #[T_s_page_Page, T_s_page_Page] T_s_page_Page #[(.slice a49 l49 c49), (.slice (some ⟨b19, 0, none⟩) 1 1)]) w81 fun r15 w82 => ∃ (a52 : Option Addr) (l52 c52 : Nat), r15 = (.slice a52 l52 c52) ∧ (StF w82 (Addr.add ⟨b1, 0, none⟩ 2) (.slice a52 l52 c52) fun w83 => (Next25 ((IntKind.wrap .i64 (s25.1 + (1 : Int))), ()) w83)))))))))))))) ∧ (AlF w74 (.cells #[(.int .i64 (0 : Int)), (.int .i64 (0 : Int)), (.slice none 0 0), (.slice none 0 0)] T_page_Page) fun b20 w84 => (S28 w84 ∧ (RunF Tryd.prog (Builtin.append_ #[T_s_api_Group, T_s_api_Group] T_s_api_Group #[(.slice a30 l30 c30), (.slice (some ⟨b17, 0, none⟩) 1 1)]) w84 fun r16 w85 => ∃ (a53 : Option Addr) (l53 c53 : Nat), r16 = (.slice a53 l53 c53) ∧ (S28 w85 ∧ (StF w85 ⟨b20, 0, none⟩ (.int .i64 n5) fun w86 => (StF w86 (Addr.add ⟨b20, 0, none⟩ 1) (.int .i64 n6) fun w87 => (StF w87 (Addr.add ⟨b20, 0, none⟩ 2) (.slice a47 l47 c47) fun w88 => (StF w88 (Addr.add ⟨b20, 0, none⟩ 3) (.slice a53 l53 c53) fun w89 => (∃ (a54 : Option Addr) (l54 c54 : Nat), w89.cell? (Addr.add ⟨b1, 0, none⟩ 2) = some (.slice a54 l54 c54) ∧ (∃ (n15 : Int) (n16 : Int) (a55 : Option Addr) (l55 c55 : Nat) (a56 : Option Addr) (l56 c56 : Nat), (w89.cell? ⟨b20, 0, none⟩ = some (.int .i64 n15) ∧ w89.cell? (Addr.add ⟨b20, 0, none⟩ 1) = some (.int .i64 n16) ∧ w89.cell? (Addr.add ⟨b20, 0, none⟩ 2) = some (.slice a55 l55 c55) ∧ w89.cell? (Addr.add ⟨b20, 0, none⟩ 3) = some (.slice a56 l56 c56) ∧ True) ∧ (AlF w89 (.cells #[(.int .i64 n15), (.int .i64 n16), (.slice a55 l55 c55), (.slice a56 l56 c56)] T_page_Page) fun b21 w90 => (RunF Tryd.prog (Builtin.append_ #[T_s_page_Page, T_s_page_Page] T_s_page_Page #[(.slice a54 l54 c54), (.slice (some ⟨b21, 0, none⟩) 1 1)]) w90 fun r17 w91 => ∃ (a57 : Option Addr) (l57 c57 : Nat), r17 = (.slice a57 l57 c57) ∧ (StF w91 (Addr.add ⟨b1, 0, none⟩ 2) (.slice a57 l57 c57) fun w92 => (Next25 ((IntKind.wrap .i64 (s25.1 + (1 : Int))), ()) w92))))))))))))))))) ∧ (AlF w73 (.cells #[(.int .i64 (0 : Int)), (.int .i64 (0 : Int)), (.slice none 0 0), (.slice none 0 0)] T_page_Page) fun b22 w93 => (S28 w93 ∧ (RunF Tryd.prog (Builtin.append_ #[T_s_api_Counter, T_s_api_Counter] T_s_api_Counter #[(.slice a29 l29 c29), (.slice (some ⟨b8, 0, none⟩) 1 1)]) w93 fun r18 w94 => ∃ (a58 : Option Addr) (l58 c58 : Nat), r18 = (.slice a58 l58 c58) ∧ (S28 w94 ∧ (RunF Tryd.prog (Builtin.append_ #[T_s_api_Group, T_s_api_Group] T_s_api_Group #[(.slice a30 l30 c30), (.slice (some ⟨b17, 0, none⟩) 1 1)]) w94 fun r19 w95 => ∃ (a59 : Option Addr) (l59 c59 : Nat), r19 = (.slice a59 l59 c59) ∧ (S28 w95 ∧ (StF w95 ⟨b22, 0, none⟩ (.int .i64 n5) fun w96 => (StF w96 (Addr.add ⟨b22, 0, none⟩ 1) (.int .i64 n6) fun w97 => (StF w97 (Addr.add ⟨b22, 0, none⟩ 2) (.slice a58 l58 c58) fun w98 => (StF w98 (Addr.add ⟨b22, 0, none⟩ 3) (.slice a59 l59 c59) fun w99 => (∃ (a60 : Option Addr) (l60 c60 : Nat), w99.cell? (Addr.add ⟨b1, 0, none⟩ 2) = some (.slice a60 l60 c60) ∧ (∃ (n17 : Int) (n18 : Int) (a61 : Option Addr) (l61 c61 : Nat) (a62 : Option Addr) (l62 c62 : Nat), (w99.cell? ⟨b22, 0, none⟩ = some (.int .i64 n17) ∧ w99.cell? (Addr.add ⟨b22, 0, none⟩ 1) = some (.int .i64 n18) ∧ w99.cell? (Addr.add ⟨b22, 0, none⟩ 2) = some (.slice a61 l61 c61) ∧ w99.cell? (Addr.add ⟨b22, 0, none⟩ 3) = some (.slice a62 l62 c62) ∧ True) ∧ (AlF w99 (.cells #[(.int .i64 n17), (.int .i64 n18), (.slice a61 l61 c61), (.slice a62 l62 c62)] T_page_Page) fun b23 w100 => (RunF Tryd.prog (Builtin.append_ #[T_s_page_Page, T_s_page_Page] T_s_page_Page #[(.slice a60 l60 c60), (.slice (some ⟨b23, 0, none⟩) 1 1)]) w100 fun r20 w101 => ∃ (a63 : Option Addr) (l63 c63 : Nat), r20 = (.slice a63 l63 c63) ∧ (StF w101 (Addr.add ⟨b1, 0, none⟩ 2) (.slice a63 l63 c63) fun w102 => (Next25 ((IntKind.wrap .i64 (s25.1 + (1 : Int))), ()) w102))))))))))))))))))) ∧ (AlF w42 (.cells #[(.int .i64 (0 : Int)), (.int .i64 (0 : Int)), (.slice none 0 0), (.slice none 0 0)] T_page_Page) fun b24 w103 => (S28 w103 ∧ ((RunF Tryd.prog (Builtin.append_ #[T_s_api_Counter, T_s_api_Counter] T_s_api_Counter #[(.slice a29 l29 c29), (.slice (some ⟨b8, 0, none⟩) 1 1)]) w103 fun r21 w104 => ∃ (a64 : Option Addr) (l64 c64 : Nat), r21 = (.slice a64 l64 c64) ∧ (S28 w104 ∧ (AlF w104 (.cells #[(.int .i64 (IntKind.wrap .i64 (0 - s25.1))), (.int .i64 (0 : Int))] T_api_Group) fun b25 w105 => (S28 w105 ∧ (RunF Tryd.prog (Builtin.append_ #[T_s_api_Group, T_s_api_Group] T_s_api_Group #[(.slice a30 l30 c30), (.slice (some ⟨b25, 0, none⟩) 1 1)]) w105 fun r22 w106 => ∃ (a65 : Option Addr) (l65 c65 : Nat), r22 = (.slice a65 l65 c65) ∧ (S28 w106 ∧ (StF w106 ⟨b24, 0, none⟩ (.int .i64 n5) fun w107 => (StF w107 (Addr.add ⟨b24, 0, none⟩ 1) (.int .i64 n6) fun w108 => (StF w108 (Addr.add ⟨b24, 0, none⟩ 2) (.slice a64 l64 c64) fun w109 => (StF w109 (Addr.add ⟨b24, 0, none⟩ 3) (.slice a65 l65 c65) fun w110 => (∃ (a66 : Option Addr) (l66 c66 : Nat), w110.cell? (Addr.add ⟨b1, 0, none⟩ 2) = some (.slice a66 l66 c66) ∧ (∃ (n19 : Int) (n20 : Int) (a67 : Option Addr) (l67 c67 : Nat) (a68 : Option Addr) (l68 c68 : Nat), (w110.cell? ⟨b24, 0, none⟩ = some (.int .i64 n19) ∧ w110.cell? (Addr.add ⟨b24, 0, none⟩ 1) = some (.int .i64 n20) ∧ w110.cell? (Addr.add ⟨b24, 0, none⟩ 2) = some (.slice a67 l67 c67) ∧ w110.cell? (Addr.add ⟨b24, 0, none⟩ 3) = some (.slice a68 l68 c68) ∧ True) ∧ (AlF w110 (.cells #[(.int .i64 n19), (.int .i64 n20), (.slice a67 l67 c67), (.slice a68 l68 c68)] T_page_Page) fun b26 w111 => (RunF Tryd.prog (Builtin.append_ #[T_s_page_Page, T_s_page_Page] T_s_page_Page #[(.slice a66 l66 c66), (.slice (some ⟨b26, 0, none⟩) 1 1)]) w111 fun r23 w112 => ∃ (a69 : Option Addr) (l69 c69 : Nat), r23 = (.slice a69 l69 c69) ∧ (StF w112 (Addr.add ⟨b1, 0, none⟩ 2) (.slice a69 l69 c69) fun w113 => (Next25 ((IntKind.wrap .i64 (s25.1 + (1 : Int))), ()) w113)))))))))))))))) ∧ (AlF w103 (.cells #[(.int .i64 (IntKind.wrap .i64 (0 - s25.1))), (.int .i64 (0 : Int))] T_api_Group) fun b27 w114 => (S28 w114 ∧ (RunF Tryd.prog (Builtin.append_ #[T_s_api_Counter, T_s_api_Counter] T_s_api_Counter #[(.slice a29 l29 c29), (.slice (some ⟨b8, 0, none⟩) 1 1)]) w114 fun r24 w115 => ∃ (a70 : Option Addr) (l70 c70 : Nat), r24 = (.slice a70 l70 c70) ∧ (S28 w115 ∧ (RunF Tryd.prog (Builtin.append_ #[T_s_api_Group, T_s_api_Group] T_s_api_Group #[(.slice a30 l30 c30), (.slice (some ⟨b27, 0, none⟩) 1 1)]) w115 fun r25 w116 => ∃ (a71 : Option Addr) (l71 c71 : Nat), r25 = (.slice a71 l71 c71) ∧ (S28 w116 ∧ (StF w116 ⟨b24, 0, none⟩ (.int .i64 n5) fun w117 => (StF w117 (Addr.add ⟨b24, 0, none⟩ 1) (.int .i64 n6) fun w118 => (StF w118 (Addr.add ⟨b24, 0, none⟩ 2) (.slice a70 l70 c70) fun w119 => (StF w119 (Addr.add ⟨b24, 0, none⟩ 3) (.slice a71 l71 c71) fun w120 => (∃ (a72 : Option Addr) (l72 c72 : Nat), w120.cell? (Addr.add ⟨b1, 0, none⟩ 2) = some (.slice a72 l72 c72) ∧ (∃ (n21 : Int) (n22 : Int) (a73 : Option Addr) (l73 c73 : Nat) (a74 : Option Addr) (l74 c74 : Nat), (w120.cell? ⟨b24, 0, none⟩ = some (.int .i64 n21) ∧ w120.cell? (Addr.add ⟨b24, 0, none⟩ 1) = some (.int .i64 n22) ∧ w120.cell? (Addr.add ⟨b24, 0, none⟩ 2) = some (.slice a73 l73 c73) ∧ w120.cell? (Addr.add ⟨b24, 0, none⟩ 3) = some (.slice a74 l74 c74) ∧ True) ∧ (AlF w120 (.cells #[(.int .i64 n21), (.int .i64 n22), (.slice a73 l73 c73), (.slice a74 l74 c74)] T_page_Page) fun b28 w121 => (RunF Tryd.prog (Builtin.append_ #[T_s_page_Page, T_s_page_Page] T_s_page_Page #[(.slice a72 l72 c72), (.slice (some ⟨b28, 0, none⟩) 1 1)]) w121 fun r26 w122 => ∃ (a75 : Option Addr) (l75 c75 : Nat), r26 = (.slice a75 l75 c75) ∧ (StF w122 (Addr.add ⟨b1, 0, none⟩ 2) (.slice a75 l75 c75) fun w123 => (Next25 ((IntKind.wrap .i64 (s25.1 + (1 : Int))), ()) w123))))))))))))))))))))))) ∧ ((AlF w41.drew (.cells #[(.int .i64 (IntKind.wrap .i64 (0 - s25.1))), (.int .i64 (0 : Int))] T_api_Group) fun b29 w124 => (S28 w124 ∧ ((AlF w124 (.cells #[(.int .i64 (IntKind.wrap .i64 (0 - s25.1))), (.int .i64 (0 : Int)), (.int .i64 (0 : Int)), (.int .i64 (0 : Int)), (.int .i64 (0 : Int))] T_api_Counter) fun b30 w125 => (S28 w125 ∧ ((RunF Tryd.prog (Builtin.append_ #[T_s_api_Counter, T_s_api_Counter] T_s_api_Counter #[(.slice a29 l29 c29), (.slice (some ⟨b30, 0, none⟩) 1 1)]) w125 fun r27 w126 => ∃ (a76 : Option Addr) (l76 c76 : Nat), r27 = (.slice a76 l76 c76) ∧ (S28 w126 ∧ ((RunF Tryd.prog (Builtin.append_ #[T_s_api_Group, T_s_api_Group] T_s_api_Group #[(.slice a30 l30 c30), (.slice (some ⟨b29, 0, none⟩) 1 1)]) w126 fun r28 w127 => ∃ (a77 : Option Addr) (l77 c77 : Nat), r28 = (.slice a77 l77 c77) ∧ (S28 w127 ∧ (AlF w127 (.cells #[(.int .i64 (0 : Int)), (.int .i64 (0 : Int)), (.slice none 0 0), (.slice none 0 0)] T_page_Page) fun b31 w128 => (S28 w128 ∧ (StF w128 ⟨b31, 0, none⟩ (.int .i64 n5) fun w129 => (StF w129 (Addr.add ⟨b31, 0, none⟩ 1) (.int .i64 n6) fun w130 => (StF w130 (Addr.add ⟨b31, 0, none⟩ 2) (.slice a76 l76 c76) fun w131 => (StF w131 (Addr.add ⟨b31, 0, none⟩ 3) (.slice a77 l77 c77) fun w132 => (∃ (a78 : Option Addr) (l78 c78 : Nat), w132.cell? (Addr.add ⟨b1, 0, none⟩ 2) = some (.slice a78 l78 c78) ∧ (∃ (n23 : Int) (n24 : Int) (a79 : Option Addr) (l79 c79 : Nat) (a80 : Option Addr) (l80 c80 : Nat), (w132.cell? ⟨b31, 0, none⟩ = some (.int .i64 n23) ∧ w132.cell? (Addr.add ⟨b31, 0, none⟩ 1) = some (.int .i64 n24) ∧ w132.cell? (Addr.add ⟨b31, 0, none⟩ 2) = some (.slice a79 l79 c79) ∧ w132.cell? (Addr.add ⟨b31, 0, none⟩ 3) = some (.slice a80 l80 c80) ∧ True) ∧ (AlF w132 (.cells #[(.int .i64 n23), (.int .i64 n24), (.slice a79 l79 c79), (.slice a80 l80 c80)] T_page_Page) fun b32 w133 => (RunF Tryd.prog (Builtin.append_ #[T_s_page_Page, T_s_page_Page] T_s_page_Page #[(.slice a78 l78 c78), (.slice (some ⟨b32, 0, none⟩) 1 1)]) w133 fun r29 w134 => ∃ (a81 : Option Addr) (l81 c81 : Nat), r29 = (.slice a81 l81 c81) ∧ (StF w134 (Addr.add ⟨b1, 0, none⟩ 2) (.slice a81 l81 c81) fun w135 => (Next25 ((IntKind.wrap .i64 (s25.1 + (1 : Int))), ()) w135)))))))))))))) ∧ (AlF w126 (.cells #[(.int .i64 (0 : Int)), (.int .i64 (0 : Int)), (.slice none 0 0), (.slice none 0 0)] T_page_Page) fun b33 w136 => (S28 w136 ∧ (RunF Tryd.prog (Builtin.append_ #[T_s_api_Group, T_s_api_Group] T_s_api_Group #[(.slice a30 l30 c30), (.slice (some ⟨b29, 0, none⟩) 1 1)]) w136 fun r30 w137 => ∃ (a82 : Option Addr) (l82 c82 : Nat), r30 = (.slice a82 l82 c82) ∧ (S28 w137 ∧ (StF w137 ⟨b33, 0, none⟩ (.int .i64 n5) fun w138 => (StF w138 (Addr.add ⟨b33, 0, none⟩ 1) (.int .i64 n6) fun w139 => (StF w139 (Addr.add ⟨b33, 0, none⟩ 2) (.slice a76 l76 c76) fun w140 => (StF w140 (Addr.add ⟨b33, 0, none⟩ 3) (.slice a82 l82 c82) fun w141 => (∃ (a83 : Option Addr) (l83 c83 : Nat), w141.cell? (Addr.add ⟨b1, 0, none⟩ 2) = some (.slice a83 l83 c83) ∧ (∃ (n25 : Int) (n26 : Int) (a84 : Option Addr) (l84 c84 : Nat) (a85 : Option Addr) (l85 c85 : Nat), (w141.cell? ⟨b33, 0, none⟩ = some (.int .i64 n25) ∧ w141.cell? (Addr.add ⟨b33, 0, none⟩ 1) = some (.int .i64 n26) ∧ w141.cell? (Addr.add ⟨b33, 0, none⟩ 2) = some (.slice a84 l84 c84) ∧ w141.cell? (Addr.add ⟨b33, 0, none⟩ 3) = some (.slice a85 l85 c85) ∧ True) ∧ (AlF w141 (.cells #[(.int .i64 n25), (.int .i64 n26), (.slice a84 l84 c84), (.slice a85 l85 c85)] T_page_Page) fun b34 w142 => (RunF Tryd.prog (Builtin.append_ #[T_s_page_Page, T_s_page_Page] T_s_page_Page #[(.slice a83 l83 c83), (.slice (some ⟨b34, 0, none⟩) 1 1)]) w142 fun r31 w143 => ∃ (a86 : Option Addr) (l86 c86 : Nat), r31 = (.slice a86 l86 c86) ∧ (StF w143 (Addr.add ⟨b1, 0, none⟩ 2) (.slice a86 l86 c86) fun w144 => (Next25 ((IntKind.wrap .i64 (s25.1 + (1 : Int))), ()) w144))))))))))))))))) ∧ (AlF w125 (.cells #[(.int .i64 (0 : Int)), (.int .i64 (0 : Int)), (.slice none 0 0), (.slice none 0 0)] T_page_Page) fun b35 w145 => (S28 w145 ∧ (RunF Tryd.prog (Builtin.append_ #[T_s_api_Counter, T_s_api_Counter] T_s_api_Counter #[(.slice a29 l29 c29), (.slice (some ⟨b30, 0, none⟩) 1 1)]) w145 fun r32 w146 => ∃ (a87 : Option Addr) (l87 c87 : Nat), r32 = (.slice a87 l87 c87) ∧ (S28 w146 ∧ (RunF Tryd.prog (Builtin.append_ #[T_s_api_Group, T_s_api_Group] T_s_api_Group #[(.slice a30 l30 c30), (.slice (some ⟨b29, 0, none⟩) 1 1)]) w146 fun r33 w147 => ∃ (a88 : Option Addr) (l88 c88 : Nat), r33 = (.slice a88 l88 c88) ∧ (S28 w147 ∧ (StF w147 ⟨b35, 0, none⟩ (.int .i64 n5) fun w148 => (StF w148 (Addr.add ⟨b35, 0, none⟩ 1) (.int .i64 n6) fun w149 => (StF w149 (Addr.add ⟨b35, 0, none⟩ 2) (.slice a87 l87 c87) fun w150 => (StF w150 (Addr.add ⟨b35, 0, none⟩ 3) (.slice a88 l88 c88) fun w151 => (∃ (a89 : Option Addr) (l89 c89 : Nat), w151.cell? (Addr.add ⟨b1, 0, none⟩ 2) = some (.slice a89 l89 c89) ∧ (∃ (n27 : Int) (n28 : Int) (a90 : Option Addr) (l90 c90 : Nat) (a91 : Option Addr) (l91 c91 : Nat), (w151.cell? ⟨b35, 0, none⟩ = some (.int .i64 n27) ∧ w151.cell? (Addr.add ⟨b35, 0, none⟩ 1) = some (.int .i64 n28) ∧ w151.cell? (Addr.add ⟨b35, 0, none⟩ 2) = some (.slice a90 l90 c90) ∧ w151.cell? (Addr.add ⟨b35, 0, none⟩ 3) = some (.slice a91 l91 c91) ∧ True) ∧ (AlF w151 (.cells #[(.int .i64 n27), (.int .i64 n28), (.slice a90 l90 c90), (.slice a91 l91 c91)] T_page_Page) fun b36 w152 => (RunF Tryd.prog (Builtin.append_ #[T_s_page_Page, T_s_page_Page] T_s_page_Page #[(.slice a89 l89 c89), (.slice (some ⟨b36, 0, none⟩) 1 1)]) w152 fun r34 w153 => ∃ (a92 : Option Addr) (l92 c92 : Nat), r34 = (.slice a92 l92 c92) ∧ (StF w153 (Addr.add ⟨b1, 0, none⟩ 2) (.slice a92 l92 c92) fun w154 => (Next25 ((IntKind.wrap .i64 (s25.1 + (1 : Int))), ()) w154))))))))))))))))))) ∧ (AlF w124 (.cells #[(.int .i64 (0 : Int)), (.int .i64 (0 : Int)), (.slice none 0 0), (.slice none 0 0)] T_page_Page) fun b37 w155 => (S28 w155 ∧ (AlF w155 (.cells #[(.int .i64 (IntKind.wrap .i64 (0 - s25.1))), (.int .i64 (0 : Int)), (.int .i64 (0 : Int)), (.int .i64 (0 : Int)), (.int .i64 (0 : Int))] T_api_Counter) fun b38 w156 => (S28 w156 ∧ (RunF Tryd.prog (Builtin.append_ #[T_s_api_Counter, T_s_api_Counter] T_s_api_Counter #[(.slice a29 l29 c29), (.slice (some ⟨b38, 0, none⟩) 1 1)]) w156 fun r35 w157 => ∃ (a93 : Option Addr) (l93 c93 : Nat), r35 = (.slice a93 l93 c93) ∧ (S28 w157 ∧ (RunF Tryd.prog (Builtin.append_ #[T_s_api_Group, T_s_api_Group] T_s_api_Group #[(.slice a30 l30 c30), (.slice (some ⟨b29, 0, none⟩) 1 1)]) w157 fun r36 w158 => ∃ (a94 : Option Addr) (l94 c94 : Nat), r36 = (.slice a94 l94 c94) ∧ (S28 w158 ∧ (StF w158 ⟨b37, 0, none⟩ (.int .i64 n5) fun w159 => (StF w159 (Addr.add ⟨b37, 0, none⟩ 1) (.int .i64 n6) fun w160 => (StF w160 (Addr.add ⟨b37, 0, none⟩ 2) (.slice a93 l93 c93) fun w161 => (StF w161 (Addr.add ⟨b37, 0, none⟩ 3) (.slice a94 l94 c94) fun w162 => (∃ (a95 : Option Addr) (l95 c95 : Nat), w162.cell? (Addr.add ⟨b1, 0, none⟩ 2) = some (.slice a95 l95 c95) ∧ (∃ (n29 : Int) (n30 : Int) (a96 : Option Addr) (l96 c96 : Nat) (a97 : Option Addr) (l97 c97 : Nat), (w162.cell? ⟨b37, 0, none⟩ = some (.int .i64 n29) ∧ w162.cell? (Addr.add ⟨b37, 0, none⟩ 1) = some (.int .i64 n30) ∧ w162.cell? (Addr.add ⟨b37, 0, none⟩ 2) = some (.slice a96 l96 c96) ∧ w162.cell? (Addr.add ⟨b37, 0, none⟩ 3) = some (.slice a97 l97 c97) ∧ True) ∧ (AlF w162 (.cells #[(.int .i64 n29), (.int .i64 n30), (.slice a96 l96 c96), (.slice a97 l97 c97)] T_page_Page) fun b39 w163 => (RunF Tryd.prog (Builtin.append_ #[T_s_page_Page, T_s_page_Page] T_s_page_Page #[(.slice a95 l95 c95), (.slice (some ⟨b39, 0, none⟩) 1 1)]) w163 fun r37 w164 => ∃ (a98 : Option Addr) (l98 c98 : Nat), r37 = (.slice a98 l98 c98) ∧ (StF w164 (Addr.add ⟨b1, 0, none⟩ 2) (.slice a98 l98 c98) fun w165 => (Next25 ((IntKind.wrap .i64 (s25.1 + (1 : Int))), ()) w165))))))))))))))))))))) ∧ (AlF w41.drew (.cells #[(.int .i64 (0 : Int)), (.int .i64 (0 : Int)), (.slice none 0 0), (.slice none 0 0)] T_page_Page) fun b40 w166 => (S28 w166 ∧ ((AlF w166 (.cells #[(.int .i64 (IntKind.wrap .i64 (0 - s25.1))), (.int .i64 (0 : Int)), (.int .i64 (0 : Int)), (.int .i64 (0 : Int)), (.int .i64 (0 : Int))] T_api_Counter) fun b41 w167 => (S28 w167 ∧ ((RunF Tryd.prog (Builtin.append_ #[T_s_api_Counter, T_s_api_Counter] T_s_api_Counter #[(.slice a29 l29 c29), (.slice (some ⟨b41, 0, none⟩) 1 1)]) w167 fun r38 w168 => ∃ (a99 : Option Addr) (l99 c99 : Nat), r38 = (.slice a99 l99 c99) ∧ (S28 w168 ∧ (AlF w168 (.cells #[(.int .i64 (IntKind.wrap .i64 (0 - s25.1))), (.int .i64 (0 : Int))] T_api_Group) fun b42 w169 => (S28 w169 ∧ (RunF Tryd.prog (Builtin.append_ #[T_s_api_Group, T_s_api_Group] T_s_api_Group #[(.slice a30 l30 c30), (.slice (some ⟨b42, 0, none⟩) 1 1)]) w169 fun r39 w170 => ∃ (a100 : Option Addr) (l100 c100 : Nat), r39 = (.slice a100 l100 c100) ∧ (S28 w170 ∧ (StF w170 ⟨b40, 0, none⟩ (.int .i64 n5) fun w171 => (StF w171 (Addr.add ⟨b40, 0, none⟩ 1) (.int .i64 n6) fun w172 => (StF w172 (Addr.add ⟨b40, 0, none⟩ 2) (.slice a99 l99 c99) fun w173 => (StF w173 (Addr.add ⟨b40, 0, none⟩ 3) (.slice a100 l100 c100) fun w174 => (∃ (a101 : Option Addr) (l101 c101 : Nat), w174.cell? (Addr.add ⟨b1, 0, none⟩ 2) = some (.slice a101 l101 c101) ∧ (∃ (n31 : Int) (n32 : Int) (a102 : Option Addr) (l102 c102 : Nat) (a103 : Option Addr) (l103 c103 : Nat), (w174.cell? ⟨b40, 0, none⟩ = some (.int .i64 n31) ∧ w174.cell? (Addr.add ⟨b40, 0, none⟩ 1) = some (.int .i64 n32) ∧ w174.cell? (Addr.add ⟨b40, 0, none⟩ 2) = some (.slice a102 l102 c102) ∧ w174.cell? (Addr.add ⟨b40, 0, none⟩ 3) = some (.slice a103 l103 c103) ∧ True) ∧ (AlF w174 (.cells #[(.int .i64 n31), (.int .i64 n32), (.slice a102 l102 c102), (.slice a103 l103 c103)] T_page_Page) fun b43 w175 => (RunF Tryd.prog (Builtin.append_ #[T_s_page_Page, T_s_page_Page] T_s_page_Page #[(.slice a101 l101 c101), (.slice (some ⟨b43, 0, none⟩) 1 1)]) w175 fun r40 w176 => ∃ (a104 : Option Addr) (l104 c104 : Nat), r40 = (.slice a104 l104 c104) ∧ (StF w176 (Addr.add ⟨b1, 0, none⟩ 2) (.slice a104 l104 c104) fun w177 => (Next25 ((IntKind.wrap .i64 (s25.1 + (1 : Int))), ()) w177)))))))))))))))) ∧ (AlF w167 (.cells #[(.int .i64 (IntKind.wrap .i64 (0 - s25.1))), (.int .i64 (0 : Int))] T_api_Group) fun b44 w178 => (S28 w178 ∧ (RunF Tryd.prog (Builtin.append_ #[T_s_api_Counter, T_s_api_Counter] T_s_api_Counter #[(.slice a29 l29 c29), (.slice (some ⟨b41, 0, none⟩) 1 1)]) w178 fun r41 w179 => ∃ (a105 : Option Addr) (l105 c105 : Nat), r41 = (.slice a105 l105 c105) ∧ (S28 w179 ∧ (RunF Tryd.prog (Builtin.append_ #[T_s_api_Group, T_s_api_Group] T_s_api_Group #[(.slice a30 l30 c30), (.slice (some ⟨b44, 0, none⟩) 1 1)]) w179 fun r42 w180 => ∃ (a106 : Option Addr) (l106 c106 : Nat), r42 = (.slice a106 l106 c106) ∧ (S28 w180 ∧ (StF w180 ⟨b40, 0, none⟩ (.int .i64 n5) fun w181 => (StF w181 (Addr.add ⟨b40, 0, none⟩ 1) (.int .i64 n6) fun w182 => (StF w182 (Addr.add ⟨b40, 0, none⟩ 2) (.slice a105 l105 c105) fun w183 => (StF w183 (Addr.add ⟨b40, 0, none⟩ 3) (.slice a106 l106 c106) fun w184 => (∃ (a107 : Option Addr) (l107 c107 : Nat), w184.cell? (Addr.add ⟨b1, 0, none⟩ 2) = some (.slice a107 l107 c107) ∧ (∃ (n33 : Int) (n34 : Int) (a108 : Option Addr) (l108 c108 : Nat) (a109 : Option Addr) (l109 c109 : Nat), (w184.cell? ⟨b40, 0, none⟩ = some (.int .i64 n33) ∧ w184.cell? (Addr.add ⟨b40, 0, none⟩ 1) = some (.int .i64 n34) ∧ w184.cell? (Addr.add ⟨b40, 0, none⟩ 2) = some (.slice a108 l108 c108) ∧ w184.cell? (Addr.add ⟨b40, 0, none⟩ 3) = some (.slice a109 l109 c109) ∧ True) ∧ (AlF w184 (.cells #[(.int .i64 n33), (.int .i64 n34), (.slice a108 l108 c108), (.slice a109 l109 c109)] T_page_Page) fun b45 w185 => (RunF Tryd.prog (Builtin.append_ #[T_s_page_Page, T_s_page_Page] T_s_page_Page #[(.slice a107 l107 c107), (.slice (some ⟨b45, 0, none⟩) 1 1)]) w185 fun r43 w186 => ∃ (a110 : Option Addr) (l110 c110 : Nat), r43 = (.slice a110 l110 c110) ∧ (StF w186 (Addr.add ⟨b1, 0, none⟩ 2) (.slice a110 l110 c110) fun w187 => (Next25 ((IntKind.wrap .i64 (s25.1 + (1 : Int))), ()) w187))))))))))))))))))) ∧ (AlF w166 (.cells #[(.int .i64 (IntKind.wrap .i64 (0 - s25.1))), (.int .i64 (0 : Int))] T_api_Group) fun b46 w188 => (S28 w188 ∧ (AlF w188 (.cells #[(.int .i64 (IntKind.wrap .i64 (0 - s25.1))), (.int .i64 (0 : Int)), (.int .i64 (0 : Int)), (.int .i64 (0 : Int)), (.int .i64 (0 : Int))] T_api_Counter) fun b47 w189 => (S28 w189 ∧ (RunF Tryd.prog (Builtin.append_ #[T_s_api_Counter, T_s_api_Counter] T_s_api_Counter #[(.slice a29 l29 c29), (.slice (some ⟨b47, 0, none⟩) 1 1)]) w189 fun r44 w190 => ∃ (a111 : Option Addr) (l111 c111 : Nat), r44 = (.slice a111 l111 c111) ∧ (S28 w190 ∧ (RunF Tryd.prog (Builtin.append_ #[T_s_api_Group, T_s_api_Group] T_s_api_Group #[(.slice a30 l30 c30), (.slice (some ⟨b46, 0, none⟩) 1 1)]) w190 fun r45 w191 => ∃ (a112 : Option Addr) (l112 c112 : Nat), r45 = (.slice a112 l112 c112) ∧ (S28 w191 ∧ (StF w191 ⟨b40, 0, none⟩ (.int .i64 n5) fun w192 => (StF w192 (Addr.add ⟨b40, 0, none⟩ 1) (.int .i64 n6) fun w193 => (StF w193 (Addr.add ⟨b40, 0, none⟩ 2) (.slice a111 l111 c111) fun w194 => (StF w194 (Addr.add ⟨b40, 0, none⟩ 3) (.slice a112 l112 c112) fun w195 => (∃ (a113 : Option Addr) (l113 c113 : Nat), w195.cell? (Addr.add ⟨b1, 0, none⟩ 2) = some (.slice a113 l113 c113) ∧ (∃ (n35 : Int) (n36 : Int) (a114 : Option Addr) (l114 c114 : Nat) (a115 : Option Addr) (l115 c115 : Nat), (w195.cell? ⟨b40, 0, none⟩ = some (.int .i64 n35) ∧ w195.cell? (Addr.add ⟨b40, 0, none⟩ 1) = some (.int .i64 n36) ∧ w195.cell? (Addr.add ⟨b40, 0, none⟩ 2) = some (.slice a114 l114 c114) ∧ w195.cell? (Addr.add ⟨b40, 0, none⟩ 3) = some (.slice a115 l115 c115) ∧ True) ∧ (AlF w195 (.cells #[(.int .i64 n35), (.int .i64 n36), (.slice a114 l114 c114), (.slice a115 l115 c115)] T_page_Page) fun b48 w196 => (RunF Tryd.prog (Builtin.append_ #[T_s_page_Page, T_s_page_Page] T_s_page_Page #[(.slice a113 l113 c113), (.slice (some ⟨b48, 0, none⟩) 1 1)]) w196 fun r46 w197 => ∃ (a116 : Option Addr) (l116 c116 : Nat), r46 = (.slice a116 l116 c116) ∧ (StF w197 (Addr.add ⟨b1, 0, none⟩ 2) (.slice a116 l116 c116) fun w198 => (Next25 ((IntKind.wrap .i64 (s25.1 + (1 : Int))), ()) w198))))))))))))))))))))))))))))))))))))) (KK w36))))) := by
  refine loopN (fun s w' => ∃ (k : Nat) (ow' : Nat → Nat) (mp : Option Addr) (mpc : Nat) (N : List PgV), s.1 = (k : Int) ∧ k ≤ Q.length ∧ L3 w0 w' ow' lb b1 A E Q i mb mc ms msc M Y Z k mp mpc N) (fun s _ => Q.length - s.1.toNat) ⟨0, ow, none, 0, [], rfl, by omega, h1⟩ ?_
  rintro ⟨k0, u⟩ w2 ⟨k, ow2, mp, mpc, N, hk0, hke, hL⟩ _
  dsimp only at hk0 ⊢
  subst hk0
  have hlb2 : ∀ w', Blk w' lb (A.cs E.length Q.length) T_quotalaw07_Lists → w'.cell? (Addr.add ⟨lb, 0, none⟩ 2) = some (.slice A.pa Q.length A.pc) := fun w' hb => by rw [add_at]; exact hb.cell 2
  refine ⟨_, _, _, hlb2 _ hL.l.s.b, cond_d (fun hlt => ?_) (fun hge => ?_)⟩
  rotate_left
  · have hke' : k = Q.length := by omega
    subst hke'
    exact h w2 ow2 mp mpc N hL
  have hk : k < Q.length := by omega
  have hkw : IntKind.wrap .i64 ((k : Int) + 1) = ((k + 1 : Nat) : Int) := by rw [wrap_i64 (by omega) (by omega)]; omega
  have ei : IntKind.wrap .i64 (0 - (k : Int)) = -(k : Int) := by rw [wrap_i64 (by omega) (by omega)]; omega
  rw [hkw, ei]
  have hpb : (Q[k]).p.cl ≤ 990 ∧ (Q[k]).p.gl ≤ 990 := by
    have h1 := hsm _ (List.getElem_mem hk)
    have h2 := hpl _ (List.getElem_mem hk)
    omega
  generalize hPe : (Q[k]).p = p at *
  refine ⟨_, _, _, hlb2 _ hL.l.s.b, ?_⟩
  refine pgI ppV_len hL.l.s.l5.sl.rd hk rfl rfl (p := p) (by rw [← hPe]; rfl) fun b o ha hc => ⟨_, _, _, _, _, _, _, _, pg_cells rfl hc, ?_⟩
  refine AlF.intro fun b7 w20 hb6e hb6 k20 s20 => st4 hb6 rfl fun w41 hb24 k24 s24 => ?_
  have hb7 : Blk w41 b7 p.cs T_page_Page := hb24
  have f20 : Fro (fun _ => True) w2 ow2 w20 (ext ow2 w2.heap.size 1) := Fro.of_kp0 1 k20
  have h7 : ext ow2 w2.heap.size 1 b7 = 1 := ext_new (by omega)
  have f41 : Fro (fun t => t ≠ 1) w2 ow2 w41 (ext ow2 w2.heap.size 1) := (f20.mono fun _ _ => trivial).trans (Fro.of_kp' k24 fun b' _ hb' hne => hne (by rw [hb']; exact h7))
  generalize ext ow2 w2.heap.size 1 = ow4 at *
  have hL4 := hL.fr f41 hen hi
  have hO := hL4.p k hk
  rw [if_pos hk, if_pos hk, hPe] at hO
  have nb7 : ¬ (Is p.ca b7 ∨ Is p.ga b7) := by
    rintro (hh | hh)
    · have := hO.tc b7 hh; omega
    · have := hO.tg b7 hh; omega
  have kd : Kp no w41 w41.drew := Kp.drew w41 1
  have hx : XS w41 p (mkCs (-(k : Int)) p.cl 0) (mkGs (-(k : Int)) p.gl 0) ⟨-(k : Int), 0, 0, 0, 0⟩ ⟨-(k : Int), 0⟩ w41.drew none none none none none := by
    refine ⟨kd.of_no, fun j hj hh => ?_, hO.own.c.lt, hO.own.g.lt, fun _ h => (by cases h), fun _ h => (by cases h), fun _ h => (by cases h), hO.own.c.kp0 kd, hO.own.g.kp0 kd, fun _ _ h => (by cases h), fun _ _ h => (by cases h), fun _ _ _ _ h => (by cases h)⟩
    have h1 := hO.tc j hj
    have h2 := hO.tg j hh
    omega
  refine ⟨fun w' => Kp (fun j => Is p.ca j ∨ Is p.ga j) w41 w', kd.of_no, _, fun w' kz => pc0 (kz.blk hb7 nb7), _, fun w' kz => pc1 (kz.blk hb7 nb7), _, _, _, fun w' kz => pc2 (kz.blk hb7 nb7), _, _, _, fun w' kz => pc3 (kz.blk hb7 nb7), ?_⟩
  have fin : ∀ w', (∃ (k' : Nat) (ow' : Nat → Nat) (mp : Option Addr) (mpc : Nat) (N : List PgV), ((k + 1 : Nat) : Int) = (k' : Int) ∧ k' ≤ Q.length ∧ L3 w0 w' ow' lb b1 A E Q i mb mc ms msc M Y Z k' mp mpc N) → (∃ (k' : Nat) (ow' : Nat → Nat) (mp : Option Addr) (mpc : Nat) (N : List PgV), ((k + 1 : Nat) : Int) = (k' : Int) ∧ k' ≤ Q.length ∧ L3 w0 w' ow' lb b1 A E Q i mb mc ms msc M Y Z k' mp mpc N) ∧ Q.length - Int.toNat ((k + 1 : Nat) : Int) < Q.length - Int.toNat (k : Int) := fun w' h => ⟨h, by simp only [Int.toNat_natCast]; omega⟩
  clear hc
  repeat' first
    | with_reducible refine And.intro ?_ ?_
    | refine rAC hx fun b w' hx => ?_
    | refine rAG hx fun b w' hx => ?_
    | refine rAP hx fun b w' hx => ?_
    | refine rPC hx (by omega) fun a c' w' hx => ?_
    | refine rPG hx (by omega) fun a c' w' hx => ?_
    | exact leafT hL4 hk hPe hen hi hqn hL4.l.b1.lt hpb hx fun w' ow' mp' mpc' N' h' => fin w' ⟨k + 1, ow', mp', mpc', N', rfl, by omega, h'⟩
end Go.Proofs.YtnkdonpammdldaaDoor

/- The contract of the statements' own 'mark'. Conditions: none. -/
set_option linter.unusedVariables false
set_option linter.unusedSimpArgs false
namespace Go.Proofs.YtnkdonpammdldaaDoor
open Go Go.RowKit

theorem slt_nil (w : World) (ow : Nat → Nat) (e : TypeId) (s t : Nat) : SlT w ow e s none 0 0 [] t := ⟨Sl.nil w e s, fun j hj => by obtain ⟨_, hh, _⟩ := hj; cases hh⟩

set_option maxRecDepth 100000 in
theorem mark_c {w0 w : World} {ow : Nat → Nat} {lb : Nat} {A : LA} {E : List BE} {Q : List PE} {R : Ending → World → Prop} (hO : Old w0 w ow) (hL : LsI w ow lb A E Q)
    (h : ∀ w', Kp no w0 w' → R (.returned (.bool true)) w') : GoC Tryd.prog F_law07_Lists_mark #[.pointer (some ⟨lb, 0, none⟩)] w R := by
  refine S_law07_Lists_mark ?_
  unfold W_law07_Lists_mark
  have hen := hL.en
  have hqn := hL.qn
  have hpl : ∀ e ∈ Q, e.p.cl = e.cs.length ∧ e.p.gl = e.gs.length := fun e he => by
    obtain ⟨k, hk, rfl⟩ := List.getElem_of_mem he
    exact ⟨(hL.p k hk).own.cl.symm, (hL.p k hk).own.gl.symm⟩
  refine AlF.intro fun b1 w1 hb1e hb1 k1 s1 => ?_
  have f1 : Fro (fun _ => True) w ow w1 (ext ow w.heap.size 20) := Fro.of_kp0 20 k1
  have ht1 : ext ow w.heap.size 20 b1 = 20 := ext_new (by omega)
  have hL1 := hL.frA f1 fun _ _ => trivial
  have hO1 := hO.fr f1 trivial
  generalize ext ow w.heap.size 20 = ow1 at *
  have h1 : L1 w0 w1 ow1 lb b1 A E Q 0 none 0 none 0 (.slice none 0 0) [] [] (E.map fun e => e.z) := by
    refine ⟨⟨hO1, hL1.b, hL1.bt, hL1.l3, hL1.l5, ht1⟩, fun k hk => ?_, by simp, ?_, fun k hk hlt => (by omega), rfl, rfl, hb1, slt_nil _ _ _ _ _, slt_nil _ _ _ _ _, fun k hk => absurd hk (by simp), fun k hk => absurd hk (by simp)⟩
    · rw [if_neg (by omega)]; exact (hL1.e k hk).1
    · rw [List.map_map]; exact hL1.l4
  refine ⟨fun _ w' => ∃ (ow' : Nat → Nat) (mb : Option Addr) (mc : Nat) (ms : Option Addr) (msc : Nat) (M : List (Option Addr × Nat)) (Y Z : List ByteArray), L1 w0 w' ow' lb b1 A E Q E.length mb mc ms msc (.slice none 0 0) M Y Z ∧ EP w' ow' Q, ?_, ?_⟩
  · exact mark_l1 (K12 := fun _ w' => ∃ (ow' : Nat → Nat) (mb : Option Addr) (mc : Nat) (ms : Option Addr) (msc : Nat) (M : List (Option Addr × Nat)) (Y Z : List ByteArray), L1 w0 w' ow' lb b1 A E Q E.length mb mc ms msc (.slice none 0 0) M Y Z ∧ EP w' ow' Q) h1 hL1.p hen fun w' ow' mb mc ms msc M Y Z hx hy => ⟨ow', mb, mc, ms, msc, M, Y, Z, hx, hy⟩
  rintro u1 w2 ⟨ow2, mb, mc, ms, msc, M, Y, Z, hx2, hp2⟩ _
  refine ⟨fun _ w' => ∃ ow', L1 w0 w' ow' lb b1 A E Q E.length mb mc ms msc (.slice none 0 0) M Y Z ∧ EPi w' ow' Q Q.length, ?_, ?_⟩
  · exact mark_l2 (K24 := fun _ w' => ∃ ow', L1 w0 w' ow' lb b1 A E Q E.length mb mc ms msc (.slice none 0 0) M Y Z ∧ EPi w' ow' Q Q.length) hx2 (fun k hk => by rw [if_neg (by omega), if_neg (by omega)]; exact hp2 k hk) hen hqn hen fun w' ow' hx hy => ⟨ow', hx, hy⟩
  rintro u2 w3 ⟨ow3, hx3, hp3⟩ _
  refine mark_l3 ⟨hx3, hp3, rfl, fun k hk => absurd hk (by simp), slt_nil _ _ _ _ _⟩ hen hqn hen hL.sm hpl fun w4 ow4 mp mpc N hL4 => ?_
  have nl := hL4.nl
  have ml := hL4.l.ml
  have yl := hL4.l.yl
  have zl := hL4.l.zl
  have c0 : ∀ w', Kp no w4 w' → w'.cell? ⟨lb, 0, none⟩ = some (.slice A.ba E.length A.bc) := fun w' k => (k.blk hL4.l.s.b id).cell 0
  have c1 : ∀ w', Kp no w4 w' → w'.cell? (Addr.add ⟨lb, 0, none⟩ 1) = some (.slice A.sa E.length A.sc) := fun w' k => by rw [add_at]; exact (k.blk hL4.l.s.b id).cell 1
  have c2 : ∀ w', Kp no w4 w' → w'.cell? (Addr.add ⟨lb, 0, none⟩ 2) = some (.slice A.pa Q.length A.pc) := fun w' k => by rw [add_at]; exact (k.blk hL4.l.s.b id).cell 2
  have d0 : ∀ w', Kp no w4 w' → w'.cell? ⟨b1, 0, none⟩ = some (.slice mb E.length mc) := fun w' k => (k.blk hL4.l.b1 id).cell 0
  have d1 : ∀ w', Kp no w4 w' → w'.cell? (Addr.add ⟨b1, 0, none⟩ 1) = some (.slice ms E.length msc) := fun w' k => by rw [add_at]; exact (k.blk hL4.l.b1 id).cell 1
  have d2 : ∀ w', Kp no w4 w' → w'.cell? (Addr.add ⟨b1, 0, none⟩ 2) = some (.slice mp Q.length mpc) := fun w' k => by rw [add_at]; exact (k.blk hL4.l.b1 id).cell 2
  refine loopN (fun s w' => Kp no w4 w' ∧ ∃ k : Nat, s.1 = (k : Int)) (fun s _ => Q.length - s.1.toNat) ⟨Kp.refl _ _, 0, rfl⟩ ?_
  rintro ⟨k0, u⟩ w5 ⟨k5, k, hk0⟩ _
  dsimp only at hk0 ⊢
  subst hk0
  refine ⟨_, _, _, c2 w5 k5, cond_d (fun hlt => ?_) (fun hge => ?_)⟩
  · have hk : k < Q.length := by omega
    have hkw : IntKind.wrap .i64 ((k : Int) + 1) = ((k + 1 : Nat) : Int) := by rw [wrap_i64 (by omega) (by omega)]; omega
    rw [hkw]
    have hP := hL4.p k hk
    rw [if_pos hk, if_pos hk] at hP
    have hN := hL4.n k (by omega)
    refine ⟨_, _, _, c2 w5 k5, ?_⟩
    refine pgI ppV_len hL4.l.s.l5.sl.rd hk rfl rfl (p := (Q[k]).p) rfl fun b o ha hc => ⟨_, _, _, _, _, _, _, _, pg_cells rfl fun q v hv => k5.cell (hc q v hv) id, ?_⟩
    refine marked_c (p := (Q[k]).p) (i := k) (last := 0) (hP.own.kp0 k5).to_in (by omega) (by omega) fun w6 k6 => ⟨_, rfl, cond_f rfl ?_⟩
    have k46 := k5.trans0 k6
    refine ⟨_, _, _, d2 w6 k46, ?_⟩
    refine pgI (f := fun q : PgV => q.cs.toList) (fun _ => rfl) hL4.s.sl.rd (by omega : k < N.length) nl rfl (p := N[k]) rfl fun b' o' ha' hc' => ⟨_, _, _, _, _, _, _, _, pg_cells rfl fun q v hv => k46.cell (hc' q v hv) id, ?_⟩
    refine marked_c (p := N[k]) (i := k) (last := 1) (hN.own.kp0 k46).to_in (by omega) (by omega) fun w7 k7 => ⟨_, rfl, cond_f rfl ?_⟩
    exact ⟨⟨k46.trans0 k7, k + 1, rfl⟩, by simp only [Int.toNat_natCast]; omega⟩
  · refine loopN (fun s w' => Kp no w4 w' ∧ ∃ k : Nat, s.1 = (k : Int)) (fun s _ => E.length - s.1.toNat) ⟨k5, 0, rfl⟩ ?_
    rintro ⟨k0, u⟩ w6 ⟨k6, k, hk0⟩ _
    dsimp only at hk0 ⊢
    subst hk0
    refine ⟨_, _, _, c0 w6 k6, cond_d (fun hlt => ?_) (fun hge => h w6 (hL4.l.s.old.kp.trans0 k6))⟩
    have hk : k < E.length := by omega
    have hkw : IntKind.wrap .i64 ((k : Int) + 1) = ((k + 1 : Nat) : Int) := by rw [wrap_i64 (by omega) (by omega)]; omega
    rw [hkw]
    have kd : Kp no w6 w6.drew := Kp.drew w6 1
    have k4d := k6.trans0 kd
    have hE := hL4.l.e k hk
    rw [if_pos hk] at hE
    have hz := hL4.l.zv k (by omega) hk
    have hM := hL4.l.em k (by omega)
    have hY := hL4.l.ev k (by omega)
    obtain ⟨b3, o3, ha3, hc3⟩ := hL4.l.s.l3.sl.rd k (beV E[k]) (by simp [hk])
    obtain ⟨b4, o4, ha4, hc4⟩ := hL4.l.z.sl.rd k (.string (Z[k]'(by omega))) (by simp [zl, hk])
    obtain ⟨b5, o5, ha5, hc5⟩ := hL4.l.m.sl.rd k (.slice (M[k]'(by omega)).1 1026 (M[k]'(by omega)).2) (by simp [ml, hk])
    obtain ⟨b6, o6, ha6, hc6⟩ := hL4.l.y.sl.rd k (.string (Y[k]'(by omega))) (by simp [yl, hk])
    refine ⟨fun w' => Kp no w4 w', k4d, _, _, _, fun w' kz => c0 w' kz, by omega, hlt, _, ha3, (E[k]).a, 1024, 1024, fun w' kz => by rw [Int.toNat_natCast, add_at]; exact kz.cell hc3 id, ?_⟩
    refine ⟨_, _, _, fun w' kz => c1 w' kz, by omega, hlt, _, ha4, Z[k]'(by omega), fun w' kz => by rw [Int.toNat_natCast, add_at]; exact kz.cell hc4 id, ?_⟩
    have hE' := hE.sl.kp0 k4d
    refine convert_bytes (e := T_uint8) (by kernel_rfl) (by kernel_rfl) (by kernel_rfl) hE'.rd (fillB_len k) (sl_some hE' (by omega)) fun z5 hz5 => ⟨z5, rfl, k4d, cond_f (by rw [hz5, hz]; simp) ?_⟩
    refine ⟨_, _, _, fun w' kz => d0 w' kz, by omega, hlt, _, ha5, (M[k]'(by omega)).1, 1026, (M[k]'(by omega)).2, fun w' kz => by rw [Int.toNat_natCast, add_at]; exact kz.cell hc5 id, ?_⟩
    refine ⟨_, _, _, fun w' kz => d1 w' kz, by omega, hlt, _, ha6, Y[k]'(by omega), fun w' kz => by rw [Int.toNat_natCast, add_at]; exact kz.cell hc6 id, ?_⟩
    have hM' := hM.sl.kp0 k4d
    have hl2 : (fillB k ++ twoB k).length = 1026 := by rw [List.length_append, fillB_len]; rfl
    refine convert_bytes (e := T_uint8) (by kernel_rfl) (by kernel_rfl) (by kernel_rfl) hM'.rd hl2 (sl_some hM' (by omega)) fun z7 hz7 => ⟨z7, rfl, k4d, cond_f (by rw [hz7, hY]; simp) ?_⟩
    exact ⟨⟨k4d, k + 1, rfl⟩, by simp only [Int.toNat_natCast]; omega⟩
end Go.Proofs.YtnkdonpammdldaaDoor

/- The contract of the statement PageOwn, and its walk. Conditions: none. -/
set_option linter.unusedVariables false
set_option linter.unusedSimpArgs false
namespace Go.Proofs.YtnkdonpammdldaaDoor
open Go Go.RowKit

def x5 (v : Int) : Int := xorV .i64 v 5
theorem wrap_in (n : Int) : In64 (IntKind.wrap .i64 n) := by
  unfold In64
  simp only [IntKind.wrap, IntKind.bits, IntKind.signed]
  simp only [Bool.true_and]
  split
  · rename_i h; have := of_decide_eq_true h; omega
  · rename_i h; have := of_decide_eq_false (Bool.eq_false_iff.2 h); omega
theorem x5_in (v : Int) : In64 (x5 v) := wrap_in _
def fx (c : CL) : CL := { c with val := x5 c.val }
def gx (g : GL) : GL := { g with sum := x5 g.sum }
theorem set4v : ∀ (L : List CL) (k : Nat) (h : k < L.length) (v : Int), (fC L).set (k * 5 + 4) (.int .i64 v) = fC (L.set k { L[k] with val := v })
  | [], _, h, _ => by simp at h
  | y :: r, 0, _, v => by simp [fC, flatV, CL.cs]
  | y :: r, k + 1, h, v => by
    have ih := set4v r k (by simpa using h) v
    have e : fC (y :: r) = y.cs ++ fC r := rfl
    have e' : fC ((y :: r).set (k + 1) { (y :: r)[k + 1] with val := v }) = y.cs ++ fC (r.set k { r[k]'(by simpa using h) with val := v }) := rfl
    have hy := y.cs_len
    rw [e, e', ← ih, show (k + 1) * 5 + 4 = 5 + (k * 5 + 4) by omega, List.set_append_right _ _ (by omega), hy, Nat.add_sub_cancel_left]
theorem set1v : ∀ (L : List GL) (k : Nat) (h : k < L.length) (v : Int), (fG L).set (k * 2 + 1) (.int .i64 v) = fG (L.set k { L[k] with sum := v })
  | [], _, h, _ => by simp at h
  | y :: r, 0, _, v => by simp [fG, flatV, GL.cs]
  | y :: r, k + 1, h, v => by
    have ih := set1v r k (by simpa using h) v
    have e : fG (y :: r) = y.cs ++ fG r := rfl
    have e' : fG ((y :: r).set (k + 1) { (y :: r)[k + 1] with sum := v }) = y.cs ++ fG (r.set k { r[k]'(by simpa using h) with sum := v }) := rfl
    have hy := y.cs_len
    rw [e, e', ← ih, show (k + 1) * 2 + 1 = 2 + (k * 2 + 1) by omega, List.set_append_right _ _ (by omega), hy, Nat.add_sub_cancel_left]
theorem half_get {α : Type} {X Y : List α} {j : Nat} (hl : X.length = Y.length) (hj : j < Y.length) (h : j < (X.take j ++ Y.drop j).length) : (X.take j ++ Y.drop j)[j] = Y[j] := by
  rw [List.getElem_append_right (by simp; omega)]
  simp only [List.getElem_drop]
  congr 1
  simp
  omega
theorem right_x {num lsn : Int} {cs : List CL} {gs : List GL} (h : Right num lsn cs gs) : Right num lsn (cs.map fx) (gs.map gx) := by
  refine ⟨h.hnum, by simpa using h.one, by simpa using h.c, by simpa using h.g, h.hlsn, by simpa using h.lz, fun c hc => ?_, fun g hg => ?_⟩
  · obtain ⟨c', h', rfl⟩ := List.mem_map.1 hc
    exact h.fc c' h'
  · obtain ⟨c', h', rfl⟩ := List.mem_map.1 hg
    exact h.fg c' h'

set_option maxRecDepth 100000 in
theorem pageOwn_c {w : World} {p0 p1 : PgV} {cs0 cs1 : List CL} {gs0 gs1 : List GL} {R : Ending → World → Prop} (hnib : Nib w) (hz : Szs w) (hp : POk w p0 cs0 gs0) (hq : POk w p1 cs1 gs1)
    (h : ∀ w', Kp no w w' → R (.returned (.bool true)) w') : GoC Tryd.prog F_law07_PageOwn #[.agg p0.cs, .agg p1.cs] w R := by
  refine S_law07_PageOwn ?_
  unfold W_law07_PageOwn
  refine AlF.intro fun b1 w1 hb1e hb1 k1 s1 => AlF.intro fun b2 w2 hb2e hb2 k2 s2 => ?_
  have k02 := k1.trans0 k2
  refine first_c (hnib.kp0 k02) (hz.kp0 k02) fun w3 k3 => ⟨_, rfl, cond_f rfl ?_⟩
  have k03 := k02.trans0 k3
  refine AlF.intro fun b3 w4 hb3e hb3 k4 s4 => ?_
  refine make_u8 (n := 1024) (by omega) fun bp w5 cur hbp hcur k5 hbpe => ⟨_, _, _, rfl, ?_⟩
  have k35 := k4.trans0 k5
  have k25 := k3.trans0 k35
  have hb15 : Blk w5 b1 p0.cs T_quotalaw07_P := k25.blk (k2.blk (show Blk w1 b1 p0.cs T_quotalaw07_P from hb1) id) id
  have hb25 : Blk w5 b2 p1.cs T_quotalaw07_P := k25.blk (show Blk w2 b2 p1.cs T_quotalaw07_P from hb2) id
  have k05 := k02.trans0 k25
  refine ⟨_, _, _, _, _, _, _, _, ⟨pc0 hb15, pc1 hb15, pc2 hb15, pc3 hb15, trivial⟩, ?_⟩
  refine right_c (p := p0) (hp.i.kp0 k05) hp.c hp.g fun x cs gs w6 Mx => ⟨_, _, _, _, _, _, _, _, rfl, ?_⟩
  refine AlF.intro fun b4 w7 hb4e hb4 k7 s7 => st4 hb4 rfl fun w11 hb411 k11 s11 => ?_
  have hbx : Blk w11 b4 x.cs T_page_Page := hb411
  have k611 : Kp no w6 w11 := kp_blk k7 (by omega) k11
  have k511 := Mx.kp.trans0 k611
  have k011 := k05.trans0 k511
  have hb211 := k511.blk hb25 id
  refine ⟨_, _, _, _, _, _, _, _, ⟨pc0 hb211, pc1 hb211, pc2 hb211, pc3 hb211, trivial⟩, ?_⟩
  refine right_c (p := p1) (hq.i.kp0 k011) hq.c hq.g fun y ds hs w12 My => ⟨_, _, _, _, _, _, _, _, rfl, ?_⟩
  refine AlF.intro fun b5 w13 hb5e hb5 k13 s13 => st4 hb5 rfl fun w17 hb517 k17 s17 => ?_
  have hby : Blk w17 b5 y.cs T_page_Page := hb517
  have k1217 : Kp no w12 w17 := kp_blk k13 (by omega) k17
  have k1117 := My.kp.trans0 k1217
  have k617 := k611.trans0 k1117
  have k517 := k511.trans0 k1117
  have k017 := k05.trans0 k517
  have z01 := k1.size
  have z02 := k2.size
  have z03 := k3.size
  have z05 := k5.size
  have z6 := Mx.kp.size
  have z611 := k611.size
  have z12 := My.kp.size
  have z1217 := k1217.size
  have xl := Mx.own.c.lt
  have xg := Mx.own.g.lt
  have yl := My.own.c.lt
  have yg := My.own.g.lt
  have xf := Mx.fc
  have xfg := Mx.fg
  have yf := My.fc
  have yfg := My.fg
  have bpl := hbp.lt
  have b3l := hb3.lt
  have b4l := hbx.lt
  -- the owners by now
  obtain ⟨ow, hO, t3, tp, tx1, tx2, ty1, ty2, t4, t5⟩ : ∃ ow : Nat → Nat, Old w w17 ow ∧ ow b3 = 2 ∧ ow bp = 7 ∧ Tg ow 8 (Is x.ca) ∧ Tg ow 8 (Is x.ga) ∧ Tg ow 8 (Is y.ca) ∧ Tg ow 8 (Is y.ga) ∧ ow b4 = 1 ∧ ow b5 = 1 := by
    refine ⟨tag (fun j => Is x.ca j ∨ Is x.ga j ∨ Is y.ca j ∨ Is y.ga j) 8 (tag (fun j => j = bp) 7 (tag (fun j => j = b3) 2 (ext (fun _ => 0) w.heap.size 1))), ⟨k017, fun k hk => ?_⟩, ?_, ?_, fun k hk => tag_in (.inl hk), fun k hk => tag_in (.inr (.inl hk)), fun k hk => tag_in (.inr (.inr (.inl hk))), fun k hk => tag_in (.inr (.inr (.inr hk))), ?_, ?_⟩
    · rw [tag_out, tag_out (by omega), tag_out (by omega), ext_old hk]
      rintro (hh | hh | hh | hh)
      · have := xf k hh; omega
      · have := xfg k hh; omega
      · have := yf k hh; omega
      · have := yfg k hh; omega
    · rw [tag_out, tag_out (by omega), tag_in (F := fun j => j = b3) rfl]
      rintro (hh | hh | hh | hh)
      · have := xf _ hh; omega
      · have := xfg _ hh; omega
      · have := yf _ hh; omega
      · have := yfg _ hh; omega
    · rw [tag_out, tag_in (F := fun j => j = bp) rfl]
      rintro (hh | hh | hh | hh)
      · have := xf _ hh; omega
      · have := xfg _ hh; omega
      · have := yf _ hh; omega
      · have := yfg _ hh; omega
    · rw [tag_out, tag_out (by omega), tag_out (by omega), ext_new (by omega)]
      rintro (hh | hh | hh | hh)
      · have := xl _ hh; omega
      · have := xg _ hh; omega
      · have := yf _ hh; omega
      · have := yfg _ hh; omega
    · rw [tag_out, tag_out (by omega), tag_out (by omega), ext_new (by omega)]
      rintro (hh | hh | hh | hh)
      · have := xl _ hh; omega
      · have := xg _ hh; omega
      · have := yl _ hh; omega
      · have := yg _ hh; omega
  have hX : OwT w17 ow x cs gs 8 8 := ⟨Mx.own.kp0 k617, tx1, tx2⟩
  have hY : OwT w17 ow y ds hs 8 8 := ⟨My.own.kp0 k1217, ty1, ty2⟩
  have hL0 : LsI w17 ow b3 ⟨none, 0, none, 0, none, 0, none, 0⟩ [] [] := ⟨k517.blk (k5.blk hb3 id) id, t3, slt_nil _ _ _ _ _, slt_nil _ _ _ _ _, slt_nil _ _ _ _ _, slt_nil _ _ _ _ _, fun k hk => absurd hk (by simp), fun k hk => absurd hk (by simp), fun k hk => absurd hk (by simp), by simp, by simp, fun e he => absurd he (by simp)⟩
  have hP0 : SlT w17 ow T_uint8 1 (some ⟨bp, 0, none⟩) 1024 1024 (bvs (List.replicate 1024 0)) 7 := by
    refine ⟨Sl.kp0 ⟨by rw [bvs_len, List.length_replicate], Nat.le_refl _, .inr ⟨bp, cur, rfl, hbp, ?_, ?_⟩⟩ k517, fun j hj => ?_⟩
    · have := congrArg List.length hcur
      rw [bvs_len, List.length_replicate] at this
      simpa using this
    · rw [hcur, List.take_of_length_le (by rw [bvs_len, List.length_replicate]; omega)]
    · obtain ⟨_, he, rfl⟩ := hj
      cases he
      exact tp
  have hbx17 := k1117.blk hbx id
  have hdx : ∀ j, Is x.ca j → ¬ Is x.ga j := fun j hj hh => by
    rcases Mx.one with h1 | h1
    · rw [h1] at hj; obtain ⟨_, he, _⟩ := hj; cases he
    · rw [h1] at hh; obtain ⟨_, he, _⟩ := hh; cases he
  refine ⟨fun s w' => s.1 = true ∧ ∃ (ow' : Nat → Nat) (A : LA) (E : List BE) (Q : List PE) (PB : List UInt8), LsI w' ow' b3 A E Q ∧ E.length = 4 ∧ Q.length = 8 ∧ SlT w' ow' T_uint8 1 (some ⟨bp, 0, none⟩) 1024 1024 (bvs PB) 7 ∧ OwT w' ow' x cs gs 8 8 ∧ Blk w' b4 x.cs T_page_Page ∧ ow' b4 = 1 ∧ Old w w' ow', ?_, ?_⟩
  · refine ⟨_, _, _, _, _, _, _, _, ⟨pc0 hbx17, pc1 hbx17, pc2 hbx17, pc3 hbx17, trivial⟩, ?_⟩
    refine ask_c (q := x) hnib hz hO hL0 hX Mx.right Mx.c Mx.g hP0 (by simp) (by simp) fun ow2 A2 E2 Q2 PB2 w18 hL2 hE2 hQ2 hP2 f2 => ⟨_, rfl, ?_⟩
    show cond true _ _
    obtain ⟨hby2, t52⟩ := blk_fr hby t5 f2 (by omega)
    refine ⟨_, _, _, _, _, _, _, _, ⟨pc0 hby2, pc1 hby2, pc2 hby2, pc3 hby2, trivial⟩, ?_⟩
    refine ask_c (q := y) hnib hz (hO.fr f2 (by omega)) hL2 (hY.fr f2 (by omega) (by omega)) My.right My.c My.g hP2 (by rw [hE2]; simp) (by rw [hQ2]; simp) fun ow3 A3 E3 Q3 PB3 w19 hL3 hE3 hQ3 hP3 f3 => ⟨_, rfl, ?_⟩
    have f23 := f2.trans f3
    obtain ⟨hbx3, t43⟩ := blk_fr hbx17 t4 f23 (by omega)
    exact ⟨rfl, ow3, A3, E3, Q3, PB3, hL3, by rw [hE3, hE2]; rfl, by rw [hQ3, hQ2]; rfl, hP3, hX.fr f23 (by omega) (by omega), hbx3, t43, hO.fr f23 (by omega)⟩
  rintro ⟨q8, u8⟩ w20 ⟨hq8, ow, A, E, Q, PB, hL, hEl, hQl, hP, hX, hbx, t4, hO⟩ _
  dsimp only at hq8 ⊢
  subst hq8
  refine ⟨fun _ w' => w' = w20, cond_f rfl rfl, ?_⟩
  rintro u9 w21 hw21 _
  rw [hw21]
  have hcl := hX.own.cl
  have hgl := hX.own.gl
  have hcb := hX.own.cb
  have hgb := hX.own.gb
  have bxf : ∀ w', Fro (fun t => t ≠ 8) w20 ow w' ow → Blk w' b4 x.cs T_page_Page := fun w' f => (blk_fr hbx t4 f (by omega)).1
  refine ⟨fun _ w' => Sl w' T_api_Counter 5 x.ca x.cl x.cc (fC (cs.map fx)) ∧ Sl w' T_api_Group 2 x.ga x.gl x.gc (fG gs) ∧ Fro (fun t => t ≠ 8) w20 ow w' ow, ?_, ?_⟩
  · refine loopN (fun s w' => ∃ k : Nat, s.1 = (k : Int) ∧ k ≤ x.cl ∧ Sl w' T_api_Counter 5 x.ca x.cl x.cc (fC ((cs.map fx).take k ++ cs.drop k)) ∧ Sl w' T_api_Group 2 x.ga x.gl x.gc (fG gs) ∧ Fro (fun t => t ≠ 8) w20 ow w' ow) (fun s _ => x.cl - s.1.toNat)
      ⟨0, rfl, by omega, by simpa using hX.own.c, hX.own.g, ⟨Kp.refl _ _, fun _ _ _ => rfl⟩⟩ ?_
    rintro ⟨k0, u⟩ w22 ⟨k, hk0, hk, hc, hg, f⟩ _
    dsimp only at hk0 ⊢
    subst hk0
    have hb := bxf w22 f
    refine ⟨_, _, _, pc2 hb, cond_d (fun hlt => ?_) (fun hge => ?_)⟩
    · have hkc : k < cs.length := by omega
      have hkw : IntKind.wrap .i64 ((k : Int) + 1) = ((k + 1 : Nat) : Int) := by rw [wrap_i64 (by omega) (by omega)]; omega
      rw [hkw]
      have kd : Kp no w22 w22.drew := Kp.drew w22 1
      have hlen : ((cs.map fx).take k ++ cs.drop k).length = cs.length := by simp; omega
      have hge : (fC ((cs.map fx).take k ++ cs.drop k))[k * 5 + 4]? = some (.int .i64 (cs[k]).val) := by
        show (flatV CL.cs _)[k * 5 + 4]? = _
        rw [flatV_get (s := 5) (fun x => x.cs_len) _ k (by omega) 4 (by omega), half_get (by simp) hkc]
        rfl
      obtain ⟨bc, cur, hae, _⟩ := hc.addr (by omega)
      obtain ⟨b, o, ha, hcell⟩ := hc.rd (k * 5 + 4) _ hge
      have hab : b = bc ∧ o = 0 := by rw [hae] at ha; cases ha; exact ⟨rfl, rfl⟩
      obtain ⟨rfl, rfl⟩ := hab
      refine ⟨fun w' => Kp no w22 w', kd, _, _, _, fun w' kz => pc2 (kz.blk hb id), _, _, _, fun w' kz => pc2 (kz.blk hb id), by omega, hlt, _, hae, (cs[k]).val, fun w' kz => ?_, by omega, hlt, _, hae, ?_⟩
      · rw [Int.toNat_natCast, add2_at, Nat.zero_add]
        rw [Nat.zero_add] at hcell
        exact kz.cell hcell id
      · have hc' := hc.kp0 kd
        rw [hae] at hc'
        refine hc'.putv (i := k * 5 + 4) (by omega) (by rw [Int.toNat_natCast, add2_at, Nat.zero_add]) fun w23 hs23 k23 s23 => ?_
        have f23 : Fro (fun t => t ≠ 8) w22 ow w23 ow := Fro.of_kp' (kd.of_no.trans0 k23) fun j _ hj hne => hne (hX.tc j (by rw [hae]; exact hj))
        rw [set4v _ _ (by omega), half_set (by simp; omega) (by simp) (by rw [List.getElem_map, half_get (by simp) hkc]; rfl)] at hs23
        refine ⟨⟨k + 1, rfl, by omega, by rw [hae]; exact hs23, (hg.kp0 kd).kp k23 fun j hj hh => hdx j (by rw [hae]; exact hh) hj, f.trans f23⟩, by simp only [Int.toNat_natCast]; omega⟩
    · have hk' : k = x.cl := by omega
      subst hk'
      rw [List.take_of_length_le (by simp; omega), List.drop_eq_nil_of_le (by omega), List.append_nil] at hc
      exact ⟨hc, hg, f⟩
  rintro u10 w24 ⟨hc24, hg24, f24⟩ _
  refine ⟨fun _ w' => Sl w' T_api_Counter 5 x.ca x.cl x.cc (fC (cs.map fx)) ∧ Sl w' T_api_Group 2 x.ga x.gl x.gc (fG (gs.map gx)) ∧ Fro (fun t => t ≠ 8) w20 ow w' ow, ?_, ?_⟩
  · refine loopN (fun s w' => ∃ k : Nat, s.1 = (k : Int) ∧ k ≤ x.gl ∧ Sl w' T_api_Counter 5 x.ca x.cl x.cc (fC (cs.map fx)) ∧ Sl w' T_api_Group 2 x.ga x.gl x.gc (fG ((gs.map gx).take k ++ gs.drop k)) ∧ Fro (fun t => t ≠ 8) w20 ow w' ow) (fun s _ => x.gl - s.1.toNat)
      ⟨0, rfl, by omega, hc24, by simpa using hg24, f24⟩ ?_
    rintro ⟨k0, u⟩ w25 ⟨k, hk0, hk, hc, hg, f⟩ _
    dsimp only at hk0 ⊢
    subst hk0
    have hb := bxf w25 f
    refine ⟨_, _, _, pc3 hb, cond_d (fun hlt => ?_) (fun hge => ?_)⟩
    · have hkc : k < gs.length := by omega
      have hkw : IntKind.wrap .i64 ((k : Int) + 1) = ((k + 1 : Nat) : Int) := by rw [wrap_i64 (by omega) (by omega)]; omega
      rw [hkw]
      have kd : Kp no w25 w25.drew := Kp.drew w25 1
      have hlen : ((gs.map gx).take k ++ gs.drop k).length = gs.length := by simp; omega
      have hge : (fG ((gs.map gx).take k ++ gs.drop k))[k * 2 + 1]? = some (.int .i64 (gs[k]).sum) := by
        show (flatV GL.cs _)[k * 2 + 1]? = _
        rw [flatV_get (s := 2) (fun x => x.cs_len) _ k (by omega) 1 (by omega), half_get (by simp) hkc]
        rfl
      obtain ⟨bc, cur, hae, _⟩ := hg.addr (by omega)
      obtain ⟨b, o, ha, hcell⟩ := hg.rd (k * 2 + 1) _ hge
      have hab : b = bc ∧ o = 0 := by rw [hae] at ha; cases ha; exact ⟨rfl, rfl⟩
      obtain ⟨rfl, rfl⟩ := hab
      refine ⟨fun w' => Kp no w25 w', kd, _, _, _, fun w' kz => pc3 (kz.blk hb id), _, _, _, fun w' kz => pc3 (kz.blk hb id), by omega, hlt, _, hae, (gs[k]).sum, fun w' kz => ?_, by omega, hlt, _, hae, ?_⟩
      · rw [Int.toNat_natCast, add2_at, Nat.zero_add]
        rw [Nat.zero_add] at hcell
        exact kz.cell hcell id
      · have hg' := hg.kp0 kd
        rw [hae] at hg'
        refine hg'.putv (i := k * 2 + 1) (by omega) (by rw [Int.toNat_natCast, add2_at, Nat.zero_add]) fun w26 hs26 k26 s26 => ?_
        have f26 : Fro (fun t => t ≠ 8) w25 ow w26 ow := Fro.of_kp' (kd.of_no.trans0 k26) fun j _ hj hne => hne (hX.tg j (by rw [hae]; exact hj))
        rw [set1v _ _ (by omega), half_set (by simp; omega) (by simp) (by rw [List.getElem_map, half_get (by simp) hkc]; rfl)] at hs26
        refine ⟨⟨k + 1, rfl, by omega, (hc.kp0 kd).kp k26 fun j hj hh => hdx j hj (by rw [hae]; exact hh), by rw [hae]; exact hs26, f.trans f26⟩, by simp only [Int.toNat_natCast]; omega⟩
    · have hk' : k = x.gl := by omega
      subst hk'
      rw [List.take_of_length_le (by simp; omega), List.drop_eq_nil_of_le (by omega), List.append_nil] at hg
      exact ⟨hc, hg, f⟩
  rintro u11 w27 ⟨hc27, hg27, f27⟩ _
  have hb27 := bxf w27 f27
  refine ⟨_, _, _, _, _, _, _, _, ⟨pc0 hb27, pc1 hb27, pc2 hb27, pc3 hb27, trivial⟩, ?_⟩
  have hX27 : OwT w27 ow x (cs.map fx) (gs.map gx) 8 8 := ⟨⟨hc27, hcb, hg27, hgb⟩, hX.tc, hX.tg⟩
  have hL27 := hL.frA f27 fun t ht => by omega
  have hP27 := hP.fr f27 (by omega)
  have hO27 := hO.fr f27 (by omega)
  refine ask_c (q := x) hnib hz hO27 hL27 hX27 (right_x Mx.right) (fun c hc => ?_) (fun g hg => ?_) hP27 (by rw [hEl]; omega) (by rw [hQl]; omega) fun ow4 A4 E4 Q4 PB4 w28 hL4 hE4 hQ4 hP4 f4 => ⟨_, rfl, ?_⟩
  · obtain ⟨c', h', rfl⟩ := List.mem_map.1 hc
    have := Mx.c c' h'
    exact ⟨this.id, this.grp, this.lo, this.hi, x5_in _⟩
  · obtain ⟨c', h', rfl⟩ := List.mem_map.1 hg
    have := Mx.g c' h'
    exact ⟨this.id, x5_in _⟩
  have hO4 := hO27.fr f4 (by omega)
  refine ⟨fun _ w' => Fro (fun t => t ≠ 7) w28 ow4 w' ow4, ?_, ?_⟩
  · refine loopN (fun s w' => ∃ (k : Nat) (PB : List UInt8), s.1 = (k : Int) ∧ SlT w' ow4 T_uint8 1 (some ⟨bp, 0, none⟩) 1024 1024 (bvs PB) 7 ∧ Fro (fun t => t ≠ 7) w28 ow4 w' ow4) (fun s _ => 1024 - s.1.toNat)
      ⟨0, PB4, rfl, hP4, ⟨Kp.refl _ _, fun _ _ _ => rfl⟩⟩ ?_
    rintro ⟨k0, u⟩ w29 ⟨k, PB5, hk0, hs, f⟩ _
    dsimp only at hk0 ⊢
    subst hk0
    refine cond_d (fun hlt => ?_) (fun hge => f)
    have hkw : IntKind.wrap .i64 ((k : Int) + 1) = ((k + 1 : Nat) : Int) := by rw [wrap_i64 (by omega) (by omega)]; omega
    rw [hkw]
    refine ⟨by omega, hlt, _, rfl, ?_⟩
    refine slt_put hs rfl (i := k) (by omega) (by rw [Int.toNat_natCast, add_at]) (v := bv 85) fun w30 hs30 f30 => ?_
    rw [bvs_set] at hs30
    exact ⟨⟨k + 1, _, rfl, hs30, f.trans f30⟩, by simp only [Int.toNat_natCast]; omega⟩
  rintro u12 w31 f31 _
  show cond true _ _
  have hL31 := hL4.frA f31 fun t ht => by omega
  have hO31 := hO4.fr f31 (by omega)
  refine stay_c hL31 fun w32 k32 => ⟨_, rfl, ?_⟩
  show cond true _ _
  have f32 : Fro (fun _ => True) w31 ow4 w32 ow4 := Fro.new k32 fun _ _ => rfl
  exact mark_c (hO31.fr f32 trivial) (hL31.frA f32 fun _ _ => trivial) fun w33 k33 => ⟨_, rfl, h w33 k33⟩
theorem pageOwn_walk {W : World} (hnib : Nib W) (hz : Szs W) {v0 v1 : Value} (h0 : ArgW Tryd.prog W T_quotalaw07_P v0) (h1 : ArgW Tryd.prog W T_quotalaw07_P v1) :
    GoC Tryd.prog F_law07_PageOwn #[v0, v1] W fun e W' => e = .returned (.bool true) ∧ Kp no W W' := by
  obtain ⟨p, cs, gs, rfl, hp⟩ := p_open h0
  obtain ⟨q, ds, hs, rfl, hq⟩ := p_open h1
  exact pageOwn_c hnib hz hp hq fun w' k => ⟨rfl, k⟩
end Go.Proofs.YtnkdonpammdldaaDoor
