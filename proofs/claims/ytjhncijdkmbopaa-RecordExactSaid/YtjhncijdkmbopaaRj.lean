/- The plain form of a record's reading; the state of a reading walk. Conditions: none. -/
import Derived.Test.YtjhncijdkmbopaaRi
set_option linter.unusedVariables false
set_option linter.unusedSimpArgs false
namespace Go.Proofs.Ytjhncijdkmbopaa
open Go Go.RowKit

def u64m : Nat := 18446744073709551615
def mst (k : Int) : Nat := if k = 8 then 2147483648 else 2147483647
def rdInts (bs : List UInt8) (M : Nat) : List Nat → RV × (Nat × Nat) → RV × (Nat × Nat)
  | [], s => s
  | o :: l, s => rdInts bs M l (s.1.put ((rdU bs s.2 M).1 : Int) o, (rdU bs s.2 M).2)
def rdSgn (bs : List UInt8) : List Nat → RV × (Nat × Nat) → RV × (Nat × Nat)
  | [], s => s
  | o :: l, s => rdSgn bs l (s.1.put (unzig (rdU bs s.2 18446744073709551615).1) o, (rdU bs s.2 18446744073709551615).2)
/-- A live transaction is read. -/
def rdL1 (bs : List UInt8) (st : Nat × Nat) : LV × (Nat × Nat) :=
  (⟨((rdU bs st 2147483647).1 : Int), ((rdU bs (rdU bs st 2147483647).2 2147483647).1 : Int), ((rdU bs (rdU bs (rdU bs st 2147483647).2 2147483647).2 2).1 : Int) == 1, ((rdU bs (rdU bs (rdU bs st 2147483647).2 2147483647).2 2).1 : Int) == 2⟩,
   (rdU bs (rdU bs (rdU bs st 2147483647).2 2147483647).2 2).2)
def rdD1 (bs : List UInt8) (st : Nat × Nat) : DV × (Nat × Nat) :=
  (⟨((rdU bs st 2147483647).1 : Int), ((rdU bs (rdU bs st 2147483647).2 2147483647).1 : Int)⟩, (rdU bs (rdU bs st 2147483647).2 2147483647).2)
def rdLive (bs : List UInt8) : Nat → List LV × (Nat × Nat) → List LV × (Nat × Nat)
  | 0, s => s
  | n + 1, s => rdLive bs n (s.1 ++ [(rdL1 bs s.2).1], (rdL1 bs s.2).2)
def rdDirty (bs : List UInt8) : Nat → List DV × (Nat × Nat) → List DV × (Nat × Nat)
  | 0, s => s
  | n + 1, s => rdDirty bs n (s.1 ++ [(rdD1 bs s.2).1], (rdD1 bs s.2).2)
def rdCp (bs : List UInt8) (s : RV × (Nat × Nat)) : RV × (Nat × Nat) :=
  let n := rdU bs s.2 32
  let l := rdLive bs n.1 (s.1.live, n.2)
  let d := rdU bs l.2 16
  let e := rdDirty bs d.1 (s.1.dirty, d.2)
  ({ s.1 with live := l.1, dirty := e.1 }, e.2)
def rdTail (bs : List UInt8) (s : RV × (Nat × Nat)) : RV × (Nat × Nat) := if s.1.kind = 8 then rdCp bs s else s
def rdRec (bs : List UInt8) (k : Int) (st : Nat × Nat) : RV × (Nat × Nat) := rdTail bs (rdSgn bs (sof k) (rdInts bs (mst k) (iof k) ({ kind := k }, st)))
def endE (bs : List UInt8) (st : Nat × Nat) : Nat := if st.2 = 0 ∧ st.1 < bs.length then 21 else st.2
/-- The record of bytes, or the fault. -/
def decB (bs : List UInt8) : RV × Nat :=
  let a := rdU bs (0, 0) 18446744073709551615
  if a.2.2 ≠ 0 then ({}, a.2.2) else if a.1 < 1 ∨ 8 < a.1 then ({}, 70) else
  let x := rdRec bs (a.1 : Int) a.2
  if endE bs x.2 ≠ 0 then ({}, endE bs x.2) else if chkN x.1 ≠ 0 then ({}, chkN x.1) else (x.1, 0)

theorem rdU_le (bs : List UInt8) (st : Nat × Nat) (m : Nat) : (rdU bs st m).1 ≤ m := by
  unfold rdU
  split
  · split
    · split
      · simp
      · simp only; omega
    · simp
  · simp
theorem put_kind {r : RV} {v : Int} {o : Nat} (ho : o ∈ plc) : (r.put v o).kind = r.kind ∧ (r.put v o).live = r.live ∧ (r.put v o).dirty = r.dirty ∧ (r.put v o).lsn = r.lsn := by
  simp only [plc, List.mem_cons, List.mem_nil_iff, or_false] at ho
  rcases ho with rfl | rfl | rfl | rfl | rfl | rfl | rfl | rfl | rfl | rfl | rfl | rfl | rfl <;> exact ⟨rfl, rfl, rfl, rfl⟩

theorem er_lv : ElemRow Try.prog T_s_api_Live T_api_Live (.agg #[.int .i64 0, .int .i64 0, .bool false, .bool false]) 4 24 := elemRow (by kernel_rfl) (by kernel_rfl) rfl
theorem er_dv : ElemRow Try.prog T_s_api_Dirty T_api_Dirty (.agg #[.int .i64 0, .int .i64 0]) 2 16 := elemRow (by kernel_rfl) (by kernel_rfl) rfl
theorem LV.cs1 (x : LV) : ∀ u ∈ x.cs, u.oneCell' = true := by
  intro u hu
  simp only [LV.cs, List.mem_cons, List.mem_nil_iff, or_false] at hu
  rcases hu with rfl | rfl | rfl | rfl <;> rfl
theorem DV.cs1 (x : DV) : ∀ u ∈ x.cs, u.oneCell' = true := by
  intro u hu
  simp only [DV.cs, List.mem_cons, List.mem_nil_iff, or_false] at hu
  rcases hu with rfl | rfl <;> rfl

/-- A record's block and its lists, by owners 2, 4, 5; the answer's block, by owner 1. -/
structure Bx (w0 w : World) (ow : Nat → Nat) (b1 b2 : Nat) (r : RV) (m : Mm) : Prop where
  old : Old w0 w ow
  x1 : Blk w b1 (({} : RV).ca {}) T_api_Record
  t1 : ow b1 = 1
  x2 : Blk w b2 (r.ca m) T_api_Record
  t2 : ow b2 = 2
theorem Bx.fr {T : Nat → Prop} {w0 w w' : World} {ow ow' : Nat → Nat} {b1 b2 : Nat} {r : RV} {m : Mm} (h : Bx w0 w ow b1 b2 r m) (f : Fro T w ow w' ow') (h0 : T 0) (h1 : T 1) (h2 : T 2) : Bx w0 w' ow' b1 b2 r m := by
  obtain ⟨a, b⟩ := blk_fr h.x1 h.t1 f h1
  obtain ⟨c, d⟩ := blk_fr h.x2 h.t2 f h2
  exact ⟨h.old.fr f h0, a, b, c, d⟩
theorem Bx.st {w0 w : World} {ow : Nat → Nat} {b1 b2 o : Nat} {r : RV} {m : Mm} {ad : Addr} {v : Value} {K : World → Prop} (h : Bx w0 w ow b1 b2 r m) (r3 : RV) (m3 : Mm) (had : ad = ⟨b2, o, none⟩) (ho : o < 17)
    (he : (r.ca m).setIfInBounds o v = r3.ca m3) (hk : ∀ w', Bx w0 w' ow b1 b2 r3 m3 → Fro (fun t => t ≠ 2) w ow w' ow → K w') : StF w ad v K :=
  StF.at had h.x2 ho fun w' hb' k' _ => by
    have f : Fro (fun t => t ≠ 2) w ow w' ow := Fro.of_kp' k' fun b _ hb hne => hne (by rw [hb]; exact h.t2)
    obtain ⟨a, b⟩ := blk_fr h.x1 h.t1 f (by omega)
    exact hk w' ⟨h.old.fr f (by omega), a, b, he ▸ hb', h.t2⟩ f

/-- The reader, by owner 3. -/
structure Rr (w : World) (ow : Nat → Nat) (B : Nat) (g : Option Addr) (bs : List UInt8) (st : Nat × Nat) : Prop where
  re : Re w B g bs st.1 st.2
  t3 : Tg ow 3 (fpW B g)
theorem Rr.fr {T : Nat → Prop} {w w' : World} {ow ow' : Nat → Nat} {B : Nat} {g : Option Addr} {bs : List UInt8} {st : Nat × Nat} (h : Rr w ow B g bs st) (f : Fro T w ow w' ow') (h3 : T 3) : Rr w' ow' B g bs st :=
  ⟨h.re.kp f.kp fun b hb hn => hn (by rw [h.t3 b hb]; exact h3), h.t3.fr f h3 h.re.lt⟩
theorem Rr.U {w : World} {ow : Nat → Nat} {B : Nat} {g : Option Addr} {bs : List UInt8} {st : Nat × Nat} {M : Nat} {R : Ending → World → Prop} (h : Rr w ow B g bs st) (hb : bs.length < 140737488355329)
    (hk : ∀ w', Rr w' ow B g bs (rdU bs st M).2 → Fro (fun t => t ≠ 3) w ow w' ow → R (.returned (.int .u64 ((rdU bs st M).1 : Int))) w') : GoC Try.prog F_field_Reader_U #[.pointer (some ⟨B, 0, none⟩), .int .u64 (M : Int)] w R :=
  reader_U h.re hb fun w' hr k => hk w' ⟨hr, h.t3⟩ (Fro.of_kp' k fun b _ hb' hne => hne (h.t3 b (.inl hb')))
theorem Rr.S {w : World} {ow : Nat → Nat} {B : Nat} {g : Option Addr} {bs : List UInt8} {st : Nat × Nat} {R : Ending → World → Prop} (h : Rr w ow B g bs st) (hb : bs.length < 140737488355329)
    (hk : ∀ w', Rr w' ow B g bs (rdU bs st 18446744073709551615).2 → Fro (fun t => t ≠ 3) w ow w' ow → R (.returned (.int .i64 (unzig (rdU bs st 18446744073709551615).1))) w') : GoC Try.prog F_field_Reader_S #[.pointer (some ⟨B, 0, none⟩)] w R :=
  reader_S h.re hb fun w' hr k => hk w' ⟨hr, h.t3⟩ (Fro.of_kp' k fun b _ hb' hne => hne (h.t3 b (.inl hb')))

/-- A list that is only read, by its owner. -/
structure RdT (w : World) (ow : Nat → Nat) (a : Option Addr) (xs : List Value) (t : Nat) : Prop where
  rd : Rd w a xs
  tg : xs ≠ [] → Tg ow t (Is a)
theorem RdT.fr {T : Nat → Prop} {w w' : World} {ow ow' : Nat → Nat} {a : Option Addr} {xs : List Value} {t : Nat} (h : RdT w ow a xs t) (f : Fro T w ow w' ow') (ht : T t) : RdT w' ow' a xs t := by
  by_cases hx : xs = []
  · subst hx
    exact ⟨Rd.nil _ _, fun hh => absurd rfl hh⟩
  · refine ⟨h.rd.kp f.kp fun b hb hn => hn (by rw [h.tg hx b hb]; exact ht), fun _ => (h.tg hx).fr f ht fun k hk => ?_⟩
    obtain ⟨b, o, ha, hlt, _⟩ := h.rd.addr hx
    obtain ⟨ad, had, rfl⟩ := hk
    rw [ha] at had
    cases had
    exact hlt

/-- The record's lists, by owners 4 and 5. -/
structure Ls (w : World) (ow : Nat → Nat) (r : RV) (m : Mm) : Prop where
  lv : SlT w ow T_api_Live 4 m.la m.ll m.lc (flatV LV.cs r.live) 4
  dv : SlT w ow T_api_Dirty 2 m.da m.dl m.dc (flatV DV.cs r.dirty) 5
  ll : r.live.length = m.ll
  dl : r.dirty.length = m.dl
theorem Ls.fr {T : Nat → Prop} {w w' : World} {ow ow' : Nat → Nat} {r : RV} {m : Mm} (h : Ls w ow r m) (f : Fro T w ow w' ow') (h4 : T 4) (h5 : T 5) : Ls w' ow' r m := ⟨h.lv.fr f h4, h.dv.fr f h5, h.ll, h.dl⟩
theorem Ls.li {w : World} {ow : Nat → Nat} {r : RV} {m : Mm} (h : Ls w ow r m) (hl : m.ll < 140737488355329) (hd : m.dl < 140737488355329) : LiIn w m r.live r.dirty := ⟨h.lv.sl.rd, h.ll, hl, h.dv.sl.rd, h.dl, hd⟩
end Go.Proofs.Ytjhncijdkmbopaa
