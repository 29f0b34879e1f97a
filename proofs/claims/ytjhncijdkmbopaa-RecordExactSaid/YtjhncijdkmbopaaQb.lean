/- Several texts in one: Rc, Rd, Re, Rg. Conditions: lengths below 2^47. -/
import Derived.Test.YtjhncijdkmbopaaTa
/-! Records as the formulas pass them; contracts of the package record: in, below, slots, blank, state. Conditions: none. -/
set_option linter.unusedVariables false
set_option linter.unusedSimpArgs false
namespace Go.Proofs.Ytjhncijdkmbopaa
open Go Go.RowKit

theorem Blk.at {w : World} {b o : Nat} {cs : Array Value} {T : TypeId} {ad : Addr} {v : Value} (h : Blk w b cs T) (had : ad = ⟨b, o, none⟩) (hv : cs[o]? = some v) : w.cell? ad = some v := by
  subst had
  rw [h.cell]
  exact hv

/-- A block that is new since w0. -/
structure Loc (w0 w : World) (b : Nat) (cs : Array Value) (T : TypeId) : Prop where
  blk : Blk w b cs T
  nw : w0.heap.size ≤ b
  kp : Kp no w0 w
theorem Loc.al {w0 w : World} {cs : Array Value} {T : TypeId} {K : Nat → World → Prop} (k : Kp no w0 w) (h : ∀ b w', Loc w0 w' b cs T → Kp no w w' → w.heap.size ≤ b → K b w') : AlF w (.cells cs T) K :=
  AlF.intro fun b w' hb hblk k' _ => h b w' ⟨hblk, by have := k.size; omega, k.trans0 k'⟩ k' (by omega)
theorem Loc.st {w0 w : World} {b o : Nat} {cs : Array Value} {T : TypeId} {ad : Addr} {v : Value} {K : World → Prop} (h : Loc w0 w b cs T) (had : ad = ⟨b, o, none⟩) (ho : o < cs.size)
    (hk : ∀ w', Loc w0 w' b (cs.setIfInBounds o v) T → Kp (fun k => k = b) w w' → K w') : StF w ad v K :=
  StF.at had h.blk ho fun w' hb' k' _ => hk w' ⟨hb', h.nw, kp_blk h.kp h.nw k'⟩ k'
theorem Loc.at {w0 w : World} {b o : Nat} {cs : Array Value} {T : TypeId} {ad : Addr} {v : Value} (h : Loc w0 w b cs T) (had : ad = ⟨b, o, none⟩) (hv : cs[o]? = some v) : w.cell? ad = some v := h.blk.at had hv
theorem Loc.kp' {w0 w w' : World} {b : Nat} {cs : Array Value} {T : TypeId} (h : Loc w0 w b cs T) (k : Kp no w w') : Loc w0 w' b cs T := ⟨k.blk h.blk id, h.nw, h.kp.trans0 k⟩
theorem Loc.of {w0 w w' : World} {b : Nat} {cs : Array Value} {T : TypeId} {S : Nat → Prop} (h : Loc w0 w b cs T) (k : Kp S w w') (hs : ¬ S b) (k0 : Kp no w0 w') : Loc w0 w' b cs T := ⟨k.blk h.blk hs, h.nw, k0⟩

/-- A live transaction, a dirty page, a record. -/
structure LV where
  tx : Int
  last : Int
  c : Bool
  u : Bool
deriving DecidableEq
structure DV where
  page : Int
  since : Int
deriving DecidableEq
structure RV where
  lsn : Int := 0
  kind : Int := 0
  tx : Int := 0
  prev : Int := 0
  wp : Int := 0
  wi : Int := 0
  sp : Int := 0
  si : Int := 0
  delta : Int := 0
  id : Int := 0
  grp : Int := 0
  lo : Int := 0
  hi : Int := 0
  val : Int := 0
  next : Int := 0
  live : List LV := []
  dirty : List DV := []
deriving DecidableEq
def LV.cs (x : LV) : List Value := [.int .i64 x.tx, .int .i64 x.last, .bool x.c, .bool x.u]
def DV.cs (x : DV) : List Value := [.int .i64 x.page, .int .i64 x.since]
/-- Where a record's lists lie. -/
structure Mm where
  la : Option Addr := none
  ll : Nat := 0
  lc : Nat := 0
  da : Option Addr := none
  dl : Nat := 0
  dc : Nat := 0
def RV.ca (r : RV) (m : Mm) : Array Value := #[.int .i64 r.lsn, .int .i64 r.kind, .int .i64 r.tx, .int .i64 r.prev, .int .i64 r.wp, .int .i64 r.wi, .int .i64 r.sp, .int .i64 r.si, .int .i64 r.delta,
  .int .i64 r.id, .int .i64 r.grp, .int .i64 r.lo, .int .i64 r.hi, .int .i64 r.val, .slice m.la m.ll m.lc, .slice m.da m.dl m.dc, .int .i64 r.next]
/-- A record's lists lie there. -/
structure LiIn (w : World) (m : Mm) (L : List LV) (D : List DV) : Prop where
  l : Rd w m.la (flatV LV.cs L)
  ll : L.length = m.ll
  lb : m.ll < 140737488355329
  d : Rd w m.da (flatV DV.cs D)
  dl : D.length = m.dl
  db : m.dl < 140737488355329
theorem LiIn.kp0 {w w' : World} {m : Mm} {L : List LV} {D : List DV} (h : LiIn w m L D) (k : Kp no w w') : LiIn w' m L D := ⟨h.l.kp0 k, h.ll, h.lb, h.d.kp0 k, h.dl, h.db⟩
/-- Numbers that an int64 holds. -/
def i64 (n : Int) : Prop := -9223372036854775808 ≤ n ∧ n ≤ 9223372036854775807

def inB (n lo hi : Int) : Bool := decide (lo ≤ n ∧ n ≤ hi)
theorem rin_c {w : World} {n lo hi : Int} {R : Ending → World → Prop} (h : R (.returned (.bool (inB n lo hi))) w) : GoC Try.prog F_record_in #[.int .i64 n, .int .i64 lo, .int .i64 hi] w R := by
  refine S_record_in ?_
  unfold W_record_in
  unfold inB at h
  refine cond_d (fun h1 => ?_) (fun h1 => ?_)
  · have : decide (n ≤ hi) = decide (lo ≤ n ∧ n ≤ hi) := decide_eq_decide.2 (by omega)
    rw [this]
    exact h
  · have : decide (lo ≤ n ∧ n ≤ hi) = false := decide_eq_false (by omega)
    rw [this] at h
    exact h

def belB (n lsn : Int) : Bool := decide (lsn = 0 ∨ n < lsn)
theorem below_c {w : World} {n lsn : Int} {R : Ending → World → Prop} (h : R (.returned (.bool (belB n lsn))) w) : GoC Try.prog F_record_below #[.int .i64 n, .int .i64 lsn] w R := by
  refine S_record_below ?_
  unfold W_record_below
  unfold belB at h
  refine cond_eq (fun h1 => ?_) (fun h1 => ?_)
  · rw [decide_eq_true (.inl h1)] at h
    exact h
  · have : decide (n < lsn) = decide (lsn = 0 ∨ n < lsn) := decide_eq_decide.2 (by omega)
    rw [this]
    exact h

def slB (wp wi sp si : Int) : Bool := inB wp 0 63 && inB wi 0 30 && inB sp 0 63 && inB si 0 83 && decide (wp ≠ sp)
theorem slots_c {w : World} {wp wi sp si : Int} {R : Ending → World → Prop} (h : ∀ w', Kp no w w' → R (.returned (.bool (slB wp wi sp si))) w') : GoC Try.prog F_record_slots #[.agg #[.int .i64 wp, .int .i64 wi], .agg #[.int .i64 sp, .int .i64 si]] w R := by
  refine S_record_slots ?_
  unfold W_record_slots
  unfold slB at h
  refine Loc.al (Kp.refl _ w) fun b1 w1 h1 k1 g1 => Loc.al h1.kp fun b2 w2 h2 k2 g2 => ?_
  have h1' := h1.kp' k2
  refine ⟨_, h1'.at rfl rfl, rin_c ⟨_, rfl, cond_b (fun a1 => ?_) (fun a1 => ?_)⟩⟩
  · refine ⟨_, h1'.at rfl rfl, rin_c ⟨_, rfl, cond_b (fun a2 => ?_) (fun a2 => ?_)⟩⟩
    · refine ⟨_, h2.at rfl rfl, rin_c ⟨_, rfl, cond_b (fun a3 => ?_) (fun a3 => ?_)⟩⟩
      · refine ⟨_, h2.at rfl rfl, rin_c ⟨_, rfl, cond_b (fun a4 => ?_) (fun a4 => ?_)⟩⟩
        · refine ⟨_, h1'.at rfl rfl, _, h2.at rfl rfl, ?_⟩
          have e : (wp != sp) = decide (wp ≠ sp) := by by_cases hh : wp = sp <;> simp [hh]
          have := h w2 h2.kp
          rw [a1, a2, a3, a4] at this
          rw [e]
          exact this
        · have := h w2 h2.kp
          rw [a1, a2, a3, a4] at this
          exact this
      · have := h w2 h2.kp
        rw [a1, a2, a3] at this
        exact this
    · have := h w2 h2.kp
      rw [a1, a2] at this
      exact this
  · have := h w2 h2.kp
    rw [a1] at this
    exact this
end Go.Proofs.Ytjhncijdkmbopaa
/-! Contracts of the package record: state, blank, checkpoint. Conditions: none. -/
set_option linter.unusedVariables false
set_option linter.unusedSimpArgs false
namespace Go.Proofs.Ytjhncijdkmbopaa
open Go Go.RowKit

theorem Loc.up {w0 w w' : World} {b : Nat} {cs : Array Value} {T : TypeId} (h : Loc w w' b cs T) (k : Kp no w0 w) : Loc w0 w' b cs T := ⟨h.blk, by have := h.nw; have := k.size; omega, k.trans0 h.kp⟩

/-- An element of a list in memory. -/
theorem rd_el {α : Type} {f : α → List Value} {s : Nat} (hs : ∀ x, (f x).length = s) (h0 : 0 < s) {w : World} {a : Option Addr} {L : List α} (h : Rd w a (flatV f L)) {k l : Nat} (hk : k < L.length) (hl : L.length = l) {K : Addr → Prop}
    (hK : ∀ b o, a = some ⟨b, o, none⟩ → (∀ q v, (f L[k])[q]? = some v → w.cell? ⟨b, o + k * s + q, none⟩ = some v) → K ⟨b, o, none⟩) : IdxF a (k : Int) l K := by
  have hlen := flatV_len hs L
  have hx : flatV f L ≠ [] := fun hx => by
    rw [hx] at hlen
    have : 0 < L.length * s := Nat.mul_pos (by omega) h0
    simp only [List.length_nil] at hlen
    omega
  obtain ⟨b, o, ha, _, hc⟩ := h.addr hx
  refine ⟨by omega, by omega, _, ha, hK b o ha fun q v hv => ?_⟩
  have hq : q < s := by
    have := (List.getElem?_eq_some_iff.1 hv).1
    rw [hs] at this
    exact this
  rw [Nat.add_assoc]
  exact hc _ v (by rw [flatV_get hs L k hk q hq]; exact hv)
theorem LV.csl (x : LV) : x.cs.length = 4 := rfl
theorem DV.csl (x : DV) : x.cs.length = 2 := rfl

theorem lv_cp {w : World} (x : LV) {K : Nat → World → Prop} (h : ∀ b w', Loc w w' b x.cs.toArray T_api_Live → K b w') :
    AlF w (.cells #[.int .i64 0, .int .i64 0, .bool false, .bool false] T_api_Live) fun b w4 => StF w4 ⟨b, 0, none⟩ (.int .i64 x.tx) fun w5 => StF w5 (Addr.add ⟨b, 0, none⟩ 1) (.int .i64 x.last) fun w6 =>
      StF w6 (Addr.add ⟨b, 0, none⟩ 2) (.bool x.c) fun w7 => StF w7 (Addr.add ⟨b, 0, none⟩ 3) (.bool x.u) fun w8 => K b w8 :=
  Loc.al (Kp.refl _ w) fun b w1 h1 k1 g1 => h1.st rfl (by simp) fun w2 h2 _ => h2.st rfl (by simp) fun w3 h3 _ => h3.st rfl (by simp) fun w4 h4 _ => h4.st rfl (by simp) fun w5 h5 _ => h b w5 h5
theorem dv_cp {w : World} (x : DV) {K : Nat → World → Prop} (h : ∀ b w', Loc w w' b x.cs.toArray T_api_Dirty → K b w') :
    AlF w (.cells #[.int .i64 0, .int .i64 0] T_api_Dirty) fun b w4 => StF w4 ⟨b, 0, none⟩ (.int .i64 x.page) fun w5 => StF w5 (Addr.add ⟨b, 0, none⟩ 1) (.int .i64 x.since) fun w6 => K b w6 :=
  Loc.al (Kp.refl _ w) fun b w1 h1 k1 g1 => h1.st rfl (by simp) fun w2 h2 _ => h2.st rfl (by simp) fun w3 h3 _ => h b w3 h3

def stN (x : LV) : Nat := if x.c then 1 else if x.u then 2 else 0
theorem state_c {w : World} {x : LV} {R : Ending → World → Prop} (h : ∀ w', Kp no w w' → R (.returned (.int .u64 (stN x : Int))) w') : GoC Try.prog F_record_state #[.agg #[.int .i64 x.tx, .int .i64 x.last, .bool x.c, .bool x.u]] w R := by
  refine S_record_state ?_
  unfold W_record_state
  unfold stN at h
  refine Loc.al (Kp.refl _ w) fun b1 w1 h1 k1 g1 => ⟨_, h1.at rfl rfl, cond_b (fun a1 => ?_) (fun a1 => ⟨_, h1.at rfl rfl, cond_b (fun a2 => ?_) (fun a2 => ?_)⟩)⟩
  · have := h w1 h1.kp
    rw [a1] at this
    exact this
  · have := h w1 h1.kp
    rw [a1, a2] at this
    exact this
  · have := h w1 h1.kp
    rw [a1, a2] at this
    exact this

def blB (r : RV) (m : Mm) : Bool := decide (r.tx = 0 ∧ r.prev = 0 ∧ r.wp = 0 ∧ r.wi = 0 ∧ r.sp = 0 ∧ r.si = 0 ∧ r.delta = 0 ∧ r.id = 0 ∧ r.grp = 0 ∧ r.lo = 0 ∧ r.hi = 0 ∧ r.val = 0 ∧ r.next = 0 ∧ m.ll = 0 ∧ m.dl = 0)
theorem blank_c {w : World} {r : RV} {m : Mm} {R : Ending → World → Prop} (h : ∀ w', Kp no w w' → R (.returned (.bool (blB r m))) w') : GoC Try.prog F_record_blank #[.agg (r.ca m)] w R := by
  refine S_record_blank ?_
  unfold W_record_blank
  refine Loc.al (Kp.refl _ w) fun b1 w1 h1 k1 g1 => ?_
  have no' : ¬ (r.tx = 0 ∧ r.prev = 0 ∧ r.wp = 0 ∧ r.wi = 0 ∧ r.sp = 0 ∧ r.si = 0 ∧ r.delta = 0 ∧ r.id = 0 ∧ r.grp = 0 ∧ r.lo = 0 ∧ r.hi = 0 ∧ r.val = 0 ∧ r.next = 0 ∧ m.ll = 0 ∧ m.dl = 0) → R (.returned (.bool false)) w1 := fun hh => by
    have := h w1 h1.kp
    unfold blB at this
    rw [decide_eq_false hh] at this
    exact this
  refine ⟨_, h1.at rfl rfl, cond_eq (fun a1 => ?_) (fun a1 => no' (by omega))⟩
  refine ⟨_, h1.at rfl rfl, cond_eq (fun a2 => ?_) (fun a2 => no' (by omega))⟩
  refine ⟨_, _, ⟨h1.at rfl rfl, h1.at rfl rfl, trivial⟩, cond_b (fun a3 => ?_) (fun a3 => no' (by simp at a3; omega))⟩
  refine ⟨_, _, ⟨h1.at rfl rfl, h1.at rfl rfl, trivial⟩, cond_b (fun a4 => ?_) (fun a4 => no' (by simp at a4; omega))⟩
  refine ⟨_, h1.at rfl rfl, cond_eq (fun a5 => ?_) (fun a5 => no' (by omega))⟩
  refine ⟨_, _, _, _, _, ⟨h1.at rfl rfl, h1.at rfl rfl, h1.at rfl rfl, h1.at rfl rfl, h1.at rfl rfl, trivial⟩, cond_b (fun a6 => ?_) (fun a6 => no' (by simp at a6; omega))⟩
  refine ⟨_, h1.at rfl rfl, cond_eq (fun a7 => ?_) (fun a7 => no' (by omega))⟩
  refine ⟨_, _, _, h1.at rfl rfl, cond_eq (fun a8 => ?_) (fun a8 => no' (by omega))⟩
  refine ⟨_, _, _, h1.at rfl rfl, ?_⟩
  have e : (((m.dl : Nat) : Int) == 0) = blB r m := by
    simp only [Bool.and_true, Bool.and_eq_true, beq_iff_eq] at a3 a4 a6
    unfold blB
    by_cases hh : m.dl = 0
    · rw [decide_eq_true (by omega)]
      simp [hh]
    · rw [decide_eq_false (by omega)]
      simp [hh]
  rw [e]
  exact h w1 h1.kp

def liB (next lsn : Int) : Int → List LV → Bool
  | _, [] => true
  | last, x :: r => decide (last < x.tx) && decide (x.tx < next) && inB x.last 1 2147483647 && belB x.last lsn && !(x.c && x.u) && liB next lsn x.tx r
def diB (lsn : Int) : Int → List DV → Bool
  | _, [] => true
  | page, x :: r => decide (page < x.page) && decide (x.page < 64) && inB x.since 1 2147483647 && belB x.since lsn && diB lsn x.page r
def cpB (next lsn : Int) (L : List LV) (D : List DV) : Bool := inB next 1 2147483648 && decide (L.length ≤ 32) && decide (D.length ≤ 16) && liB next lsn 0 L && diB lsn (-1) D

theorem checkpoint_c {w : World} {m : Mm} {next lsn : Int} {L : List LV} {D : List DV} {R : Ending → World → Prop} (hi : LiIn w m L D) (h : ∀ w', Kp no w w' → R (.returned (.bool (cpB next lsn L D))) w') :
    GoC Try.prog F_record_checkpoint #[.agg #[.slice m.la m.ll m.lc, .slice m.da m.dl m.dc, .int .i64 next], .int .i64 lsn] w R := by
  refine S_record_checkpoint ?_
  unfold W_record_checkpoint
  have hll := hi.ll
  have hdl := hi.dl
  have hlb := hi.lb
  have hdb := hi.db
  refine Loc.al (Kp.refl _ w) fun b1 w1 h1 k1 g1 => ?_
  have no' : ∀ w', Kp no w w' → cpB next lsn L D = false → R (.returned (.bool false)) w' := fun w' k' hh => by
    have := h w' k'
    rw [hh] at this
    exact this
  refine ⟨_, h1.at rfl rfl, rin_c ⟨_, rfl, cond_not (cond_b (fun a1 => ?_) (fun a1 => no' w1 h1.kp (by simp [cpB, a1])))⟩⟩
  refine ⟨_, _, _, h1.at rfl rfl, cond_d (fun a2 => no' w1 h1.kp ?_) (fun a2 => ?_)⟩
  · have : ¬ L.length ≤ 32 := by omega
    simp [cpB, this]
  refine ⟨_, _, _, h1.at rfl rfl, cond_d (fun a3 => no' w1 h1.kp ?_) (fun a3 => ?_)⟩
  · have : ¬ D.length ≤ 16 := by omega
    simp [cpB, this]
  have e2 : L.length ≤ 32 := by omega
  have e3 : D.length ≤ 16 := by omega
  have cp : cpB next lsn L D = (liB next lsn 0 L && diB lsn (-1) D) := by simp [cpB, a1, e2, e3]
  refine ⟨_, _, _, h1.at rfl rfl, ?_⟩
  refine loopN (fun s w2 => Kp no w1 w2 ∧ ∃ k : Nat, k ≤ L.length ∧ s.2.1 = (k : Int) ∧ liB next lsn 0 L = liB next lsn s.1 (L.drop k)) (fun s _ => L.length - s.2.1.toNat) ⟨Kp.refl _ _, 0, Nat.zero_le _, rfl, rfl⟩ ?_
  rintro ⟨last, k0, u⟩ w2 ⟨k2, k, hk, hk0, hl⟩ _
  dsimp only at hk0 hl ⊢
  subst hk0
  have h2 := h1.kp' k2
  refine cond_d (fun hlt => ?_) (fun hge => ?_)
  · have hkl : k < L.length := by omega
    have hd : L.drop k = L[k] :: L.drop (k + 1) := List.drop_eq_getElem_cons hkl
    rw [hd, liB] at hl
    refine rd_el LV.csl (by omega) (hi.kp0 h2.kp).l hkl hll fun b o ha hc => ?_
    have cell : ∀ q v, (L[k]).cs[q]? = some v → w2.cell? (Addr.add ((⟨b, o, none⟩ : Addr).add (Int.toNat (k : Int) * 4)) q) = some v := fun q v hv => by
      rw [Int.toNat_natCast, add_at, add_at]; exact hc q v hv
    have cell0 : w2.cell? ((⟨b, o, none⟩ : Addr).add (Int.toNat (k : Int) * 4)) = some (.int .i64 (L[k]).tx) := by
      rw [Int.toNat_natCast, add_at]; exact hc 0 _ rfl
    refine ⟨_, _, _, _, ⟨cell0, cell 1 _ rfl, cell 2 _ rfl, cell 3 _ rfl, trivial⟩, ?_⟩
    refine lv_cp L[k] fun b2 w3 h3 => ?_
    have no2 : liB next lsn 0 L = false → R (.returned (.bool false)) w3 := fun hh => no' w3 (h2.kp.trans0 h3.kp) (by rw [cp, hh]; rfl)
    have hwk : IntKind.wrap .i64 ((k : Int) + 1) = ((k + 1 : Nat) : Int) := by rw [wrap_i64 (by omega) (by omega)]; omega
    refine ⟨fun _ w4 => w4 = w3 ∧ liB next lsn 0 L = liB next lsn (L[k]).tx (L.drop (k + 1)), ?_, ?_⟩
    · refine ⟨_, h3.at rfl rfl, cond_d (fun a4 => no2 ?_) (fun a4 => ?_)⟩
      · have : ¬ last < (L[k]).tx := by omega
        rw [hl]; simp [this]
      refine ⟨_, h3.at rfl rfl, _, (h2.kp' h3.kp).at rfl rfl, cond_d (fun a5 => no2 ?_) (fun a5 => ?_)⟩
      · have : ¬ (L[k]).tx < next := by omega
        rw [hl]; simp [this]
      refine ⟨_, h3.at rfl rfl, rin_c ⟨_, rfl, cond_not (cond_b (fun a6 => ?_) (fun a6 => no2 (by rw [hl]; simp [a6])))⟩⟩
      refine ⟨_, h3.at rfl rfl, below_c ⟨_, rfl, cond_not (cond_b (fun a7 => ?_) (fun a7 => no2 (by rw [hl]; simp [a7])))⟩⟩
      have a4' : last < (L[k]).tx := by omega
      have a5' : (L[k]).tx < next := by omega
      refine ⟨_, h3.at rfl rfl, cond_b (fun a8 => ⟨_, h3.at rfl rfl, cond_b (fun a9 => no2 ?_) (fun a9 => ⟨rfl, ?_⟩)⟩) (fun a8 => ⟨rfl, ?_⟩)⟩
      · rw [hl, a8, a9]
        simp
      · rw [hl, a6, a7, a8, a9]
        simp [a4', a5']
      · rw [hl, a6, a7, a8]
        simp [a4', a5']
    rintro s w4 ⟨rfl, hl2⟩ _
    refine ⟨_, h3.at rfl rfl, ⟨k2.trans0 h3.kp, k + 1, by omega, hwk, hl2⟩, by rw [hwk]; simp only [Int.toNat_natCast]; omega⟩
  · have hke : k = L.length := by omega
    subst hke
    rw [List.drop_length, liB] at hl
    rw [hl, Bool.true_and] at cp
    refine ⟨_, _, _, h2.at rfl rfl, ?_⟩
    refine loopN (fun s w3 => Kp no w1 w3 ∧ ∃ k : Nat, k ≤ D.length ∧ s.2.1 = (k : Int) ∧ diB lsn (-1) D = diB lsn s.1 (D.drop k)) (fun s _ => D.length - s.2.1.toNat) ⟨k2, 0, Nat.zero_le _, rfl, rfl⟩ ?_
    rintro ⟨page, k0, u⟩ w3 ⟨k3, k, hk, hk0, hl⟩ _
    dsimp only at hk0 hl ⊢
    subst hk0
    refine cond_d (fun hlt => ?_) (fun hge => ?_)
    · have hkl : k < D.length := by omega
      have hd : D.drop k = D[k] :: D.drop (k + 1) := List.drop_eq_getElem_cons hkl
      rw [hd, diB] at hl
      refine rd_el DV.csl (by omega) (hi.kp0 (h1.kp.trans0 k3)).d hkl hdl fun b o ha hc => ?_
      have cell1 : w3.cell? (Addr.add ((⟨b, o, none⟩ : Addr).add (Int.toNat (k : Int) * 2)) 1) = some (.int .i64 (D[k]).since) := by
        rw [Int.toNat_natCast, add_at, add_at]; exact hc 1 _ rfl
      have cell0 : w3.cell? ((⟨b, o, none⟩ : Addr).add (Int.toNat (k : Int) * 2)) = some (.int .i64 (D[k]).page) := by
        rw [Int.toNat_natCast, add_at]; exact hc 0 _ rfl
      refine ⟨_, _, ⟨cell0, cell1, trivial⟩, ?_⟩
      refine dv_cp D[k] fun b2 w4 h4 => ?_
      have no2 : diB lsn (-1) D = false → R (.returned (.bool false)) w4 := fun hh => no' w4 ((h1.kp.trans0 k3).trans0 h4.kp) (by rw [cp, hh])
      refine ⟨_, h4.at rfl rfl, cond_d (fun a4 => no2 ?_) (fun a4 => ?_)⟩
      · have : ¬ page < (D[k]).page := by omega
        rw [hl]; simp [this]
      refine ⟨_, h4.at rfl rfl, cond_d (fun a5 => no2 ?_) (fun a5 => ?_)⟩
      · have : ¬ (D[k]).page < 64 := by omega
        rw [hl]; simp [this]
      refine ⟨_, h4.at rfl rfl, rin_c ⟨_, rfl, cond_not (cond_b (fun a6 => ?_) (fun a6 => no2 (by rw [hl]; simp [a6])))⟩⟩
      refine ⟨_, h4.at rfl rfl, below_c ⟨_, rfl, cond_not (cond_b (fun a7 => ?_) (fun a7 => no2 (by rw [hl]; simp [a7])))⟩⟩
      have hwk : IntKind.wrap .i64 ((k : Int) + 1) = ((k + 1 : Nat) : Int) := by rw [wrap_i64 (by omega) (by omega)]; omega
      have a4' : page < (D[k]).page := by omega
      have a5' : (D[k]).page < 64 := by omega
      refine ⟨_, h4.at rfl rfl, ⟨k3.trans0 h4.kp, k + 1, by omega, hwk, ?_⟩, by rw [hwk]; simp only [Int.toNat_natCast]; omega⟩
      rw [hl, a6, a7]
      simp [a4', a5']
    · have hke : k = D.length := by omega
      subst hke
      rw [List.drop_length, diB] at hl
      rw [hl] at cp
      have := h w3 (h1.kp.trans0 k3)
      rw [cp] at this
      exact this
end Go.Proofs.Ytjhncijdkmbopaa
/-! The contract of the package record's Check. Conditions: none. -/
set_option linter.unusedVariables false
set_option linter.unusedSimpArgs false
namespace Go.Proofs.Ytjhncijdkmbopaa
open Go Go.RowKit

/-- A record, copied into a new block. -/
theorem rec_cp {w : World} (r : RV) (m : Mm) {K : Nat → World → Prop} (h : ∀ b w', Loc w w' b (r.ca m) T_api_Record → K b w') :
    AlF w (.cells #[.int .i64 0, .int .i64 0, .int .i64 0, .int .i64 0, .int .i64 0, .int .i64 0, .int .i64 0, .int .i64 0, .int .i64 0, .int .i64 0, .int .i64 0, .int .i64 0, .int .i64 0, .int .i64 0, .slice none 0 0, .slice none 0 0, .int .i64 0] T_api_Record) fun b w0 => StF w0 ⟨b, 0, none⟩ (.int .i64 r.lsn) fun w1 => StF w1 (Addr.add ⟨b, 0, none⟩ 1) (.int .i64 r.kind) fun w2 => StF w2 (Addr.add ⟨b, 0, none⟩ 2) (.int .i64 r.tx) fun w3 => StF w3 (Addr.add ⟨b, 0, none⟩ 3) (.int .i64 r.prev) fun w4 => StF w4 (Addr.add ⟨b, 0, none⟩ 4) (.int .i64 r.wp) fun w5 => StF w5 (Addr.add ⟨b, 0, none⟩ 5) (.int .i64 r.wi) fun w6 => StF w6 (Addr.add ⟨b, 0, none⟩ 6) (.int .i64 r.sp) fun w7 => StF w7 (Addr.add ⟨b, 0, none⟩ 7) (.int .i64 r.si) fun w8 => StF w8 (Addr.add ⟨b, 0, none⟩ 8) (.int .i64 r.delta) fun w9 => StF w9 (Addr.add ⟨b, 0, none⟩ 9) (.int .i64 r.id) fun w10 => StF w10 (Addr.add ⟨b, 0, none⟩ 10) (.int .i64 r.grp) fun w11 => StF w11 (Addr.add ⟨b, 0, none⟩ 11) (.int .i64 r.lo) fun w12 => StF w12 (Addr.add ⟨b, 0, none⟩ 12) (.int .i64 r.hi) fun w13 => StF w13 (Addr.add ⟨b, 0, none⟩ 13) (.int .i64 r.val) fun w14 => StF w14 (Addr.add ⟨b, 0, none⟩ 14) (.slice m.la m.ll m.lc) fun w15 => StF w15 (Addr.add ⟨b, 0, none⟩ 15) (.slice m.da m.dl m.dc) fun w16 => StF w16 (Addr.add ⟨b, 0, none⟩ 16) (.int .i64 r.next) fun w17 => K b w17 :=
  Loc.al (Kp.refl _ w) fun b w0 h0 _ _ =>
  h0.st rfl (by simp) fun w1 h' _ => have h1 : Loc w w1 b #[.int .i64 r.lsn, .int .i64 0, .int .i64 0, .int .i64 0, .int .i64 0, .int .i64 0, .int .i64 0, .int .i64 0, .int .i64 0, .int .i64 0, .int .i64 0, .int .i64 0, .int .i64 0, .int .i64 0, .slice none 0 0, .slice none 0 0, .int .i64 0] T_api_Record := h'
  h1.st rfl (by simp) fun w2 h' _ => have h2 : Loc w w2 b #[.int .i64 r.lsn, .int .i64 r.kind, .int .i64 0, .int .i64 0, .int .i64 0, .int .i64 0, .int .i64 0, .int .i64 0, .int .i64 0, .int .i64 0, .int .i64 0, .int .i64 0, .int .i64 0, .int .i64 0, .slice none 0 0, .slice none 0 0, .int .i64 0] T_api_Record := h'
  h2.st rfl (by simp) fun w3 h' _ => have h3 : Loc w w3 b #[.int .i64 r.lsn, .int .i64 r.kind, .int .i64 r.tx, .int .i64 0, .int .i64 0, .int .i64 0, .int .i64 0, .int .i64 0, .int .i64 0, .int .i64 0, .int .i64 0, .int .i64 0, .int .i64 0, .int .i64 0, .slice none 0 0, .slice none 0 0, .int .i64 0] T_api_Record := h'
  h3.st rfl (by simp) fun w4 h' _ => have h4 : Loc w w4 b #[.int .i64 r.lsn, .int .i64 r.kind, .int .i64 r.tx, .int .i64 r.prev, .int .i64 0, .int .i64 0, .int .i64 0, .int .i64 0, .int .i64 0, .int .i64 0, .int .i64 0, .int .i64 0, .int .i64 0, .int .i64 0, .slice none 0 0, .slice none 0 0, .int .i64 0] T_api_Record := h'
  h4.st rfl (by simp) fun w5 h' _ => have h5 : Loc w w5 b #[.int .i64 r.lsn, .int .i64 r.kind, .int .i64 r.tx, .int .i64 r.prev, .int .i64 r.wp, .int .i64 0, .int .i64 0, .int .i64 0, .int .i64 0, .int .i64 0, .int .i64 0, .int .i64 0, .int .i64 0, .int .i64 0, .slice none 0 0, .slice none 0 0, .int .i64 0] T_api_Record := h'
  h5.st rfl (by simp) fun w6 h' _ => have h6 : Loc w w6 b #[.int .i64 r.lsn, .int .i64 r.kind, .int .i64 r.tx, .int .i64 r.prev, .int .i64 r.wp, .int .i64 r.wi, .int .i64 0, .int .i64 0, .int .i64 0, .int .i64 0, .int .i64 0, .int .i64 0, .int .i64 0, .int .i64 0, .slice none 0 0, .slice none 0 0, .int .i64 0] T_api_Record := h'
  h6.st rfl (by simp) fun w7 h' _ => have h7 : Loc w w7 b #[.int .i64 r.lsn, .int .i64 r.kind, .int .i64 r.tx, .int .i64 r.prev, .int .i64 r.wp, .int .i64 r.wi, .int .i64 r.sp, .int .i64 0, .int .i64 0, .int .i64 0, .int .i64 0, .int .i64 0, .int .i64 0, .int .i64 0, .slice none 0 0, .slice none 0 0, .int .i64 0] T_api_Record := h'
  h7.st rfl (by simp) fun w8 h' _ => have h8 : Loc w w8 b #[.int .i64 r.lsn, .int .i64 r.kind, .int .i64 r.tx, .int .i64 r.prev, .int .i64 r.wp, .int .i64 r.wi, .int .i64 r.sp, .int .i64 r.si, .int .i64 0, .int .i64 0, .int .i64 0, .int .i64 0, .int .i64 0, .int .i64 0, .slice none 0 0, .slice none 0 0, .int .i64 0] T_api_Record := h'
  h8.st rfl (by simp) fun w9 h' _ => have h9 : Loc w w9 b #[.int .i64 r.lsn, .int .i64 r.kind, .int .i64 r.tx, .int .i64 r.prev, .int .i64 r.wp, .int .i64 r.wi, .int .i64 r.sp, .int .i64 r.si, .int .i64 r.delta, .int .i64 0, .int .i64 0, .int .i64 0, .int .i64 0, .int .i64 0, .slice none 0 0, .slice none 0 0, .int .i64 0] T_api_Record := h'
  h9.st rfl (by simp) fun w10 h' _ => have h10 : Loc w w10 b #[.int .i64 r.lsn, .int .i64 r.kind, .int .i64 r.tx, .int .i64 r.prev, .int .i64 r.wp, .int .i64 r.wi, .int .i64 r.sp, .int .i64 r.si, .int .i64 r.delta, .int .i64 r.id, .int .i64 0, .int .i64 0, .int .i64 0, .int .i64 0, .slice none 0 0, .slice none 0 0, .int .i64 0] T_api_Record := h'
  h10.st rfl (by simp) fun w11 h' _ => have h11 : Loc w w11 b #[.int .i64 r.lsn, .int .i64 r.kind, .int .i64 r.tx, .int .i64 r.prev, .int .i64 r.wp, .int .i64 r.wi, .int .i64 r.sp, .int .i64 r.si, .int .i64 r.delta, .int .i64 r.id, .int .i64 r.grp, .int .i64 0, .int .i64 0, .int .i64 0, .slice none 0 0, .slice none 0 0, .int .i64 0] T_api_Record := h'
  h11.st rfl (by simp) fun w12 h' _ => have h12 : Loc w w12 b #[.int .i64 r.lsn, .int .i64 r.kind, .int .i64 r.tx, .int .i64 r.prev, .int .i64 r.wp, .int .i64 r.wi, .int .i64 r.sp, .int .i64 r.si, .int .i64 r.delta, .int .i64 r.id, .int .i64 r.grp, .int .i64 r.lo, .int .i64 0, .int .i64 0, .slice none 0 0, .slice none 0 0, .int .i64 0] T_api_Record := h'
  h12.st rfl (by simp) fun w13 h' _ => have h13 : Loc w w13 b #[.int .i64 r.lsn, .int .i64 r.kind, .int .i64 r.tx, .int .i64 r.prev, .int .i64 r.wp, .int .i64 r.wi, .int .i64 r.sp, .int .i64 r.si, .int .i64 r.delta, .int .i64 r.id, .int .i64 r.grp, .int .i64 r.lo, .int .i64 r.hi, .int .i64 0, .slice none 0 0, .slice none 0 0, .int .i64 0] T_api_Record := h'
  h13.st rfl (by simp) fun w14 h' _ => have h14 : Loc w w14 b #[.int .i64 r.lsn, .int .i64 r.kind, .int .i64 r.tx, .int .i64 r.prev, .int .i64 r.wp, .int .i64 r.wi, .int .i64 r.sp, .int .i64 r.si, .int .i64 r.delta, .int .i64 r.id, .int .i64 r.grp, .int .i64 r.lo, .int .i64 r.hi, .int .i64 r.val, .slice none 0 0, .slice none 0 0, .int .i64 0] T_api_Record := h'
  h14.st rfl (by simp) fun w15 h' _ => have h15 : Loc w w15 b #[.int .i64 r.lsn, .int .i64 r.kind, .int .i64 r.tx, .int .i64 r.prev, .int .i64 r.wp, .int .i64 r.wi, .int .i64 r.sp, .int .i64 r.si, .int .i64 r.delta, .int .i64 r.id, .int .i64 r.grp, .int .i64 r.lo, .int .i64 r.hi, .int .i64 r.val, .slice m.la m.ll m.lc, .slice none 0 0, .int .i64 0] T_api_Record := h'
  h15.st rfl (by simp) fun w16 h' _ => have h16 : Loc w w16 b #[.int .i64 r.lsn, .int .i64 r.kind, .int .i64 r.tx, .int .i64 r.prev, .int .i64 r.wp, .int .i64 r.wi, .int .i64 r.sp, .int .i64 r.si, .int .i64 r.delta, .int .i64 r.id, .int .i64 r.grp, .int .i64 r.lo, .int .i64 r.hi, .int .i64 r.val, .slice m.la m.ll m.lc, .slice m.da m.dl m.dc, .int .i64 0] T_api_Record := h'
  h16.st rfl (by simp) fun w17 h' _ => have h17 : Loc w w17 b #[.int .i64 r.lsn, .int .i64 r.kind, .int .i64 r.tx, .int .i64 r.prev, .int .i64 r.wp, .int .i64 r.wi, .int .i64 r.sp, .int .i64 r.si, .int .i64 r.delta, .int .i64 r.id, .int .i64 r.grp, .int .i64 r.lo, .int .i64 r.hi, .int .i64 r.val, .slice m.la m.ll m.lc, .slice m.da m.dl m.dc, .int .i64 r.next] T_api_Record := h'
  h b w17 h17
/-- A record, read whole. -/
theorem rec_rd {w : World} {b : Nat} {r : RV} {m : Mm} {T : TypeId} (h : Blk w b (r.ca m) T) {K : Int → Int → Int → Int → Int → Int → Int → Int → Int → Int → Int → Int → Int → Int → Option Addr → Nat → Nat → Option Addr → Nat → Nat → Int → Prop}
    (hk : K r.lsn r.kind r.tx r.prev r.wp r.wi r.sp r.si r.delta r.id r.grp r.lo r.hi r.val m.la m.ll m.lc m.da m.dl m.dc r.next) :
    ∃ (n0 n1 n2 n3 n4 n5 n6 n7 n8 n9 n10 n11 n12 n13 : Int) (a : Option Addr) (l c : Nat) (a' : Option Addr) (l' c' : Nat) (n14 : Int), (w.cell? ⟨b, 0, none⟩ = some (.int .i64 n0) ∧ w.cell? (Addr.add ⟨b, 0, none⟩ 1) = some (.int .i64 n1) ∧ w.cell? (Addr.add ⟨b, 0, none⟩ 2) = some (.int .i64 n2) ∧ w.cell? (Addr.add ⟨b, 0, none⟩ 3) = some (.int .i64 n3) ∧ w.cell? (Addr.add ⟨b, 0, none⟩ 4) = some (.int .i64 n4) ∧ w.cell? (Addr.add ⟨b, 0, none⟩ 5) = some (.int .i64 n5) ∧ w.cell? (Addr.add ⟨b, 0, none⟩ 6) = some (.int .i64 n6) ∧ w.cell? (Addr.add ⟨b, 0, none⟩ 7) = some (.int .i64 n7) ∧ w.cell? (Addr.add ⟨b, 0, none⟩ 8) = some (.int .i64 n8) ∧ w.cell? (Addr.add ⟨b, 0, none⟩ 9) = some (.int .i64 n9) ∧ w.cell? (Addr.add ⟨b, 0, none⟩ 10) = some (.int .i64 n10) ∧ w.cell? (Addr.add ⟨b, 0, none⟩ 11) = some (.int .i64 n11) ∧ w.cell? (Addr.add ⟨b, 0, none⟩ 12) = some (.int .i64 n12) ∧ w.cell? (Addr.add ⟨b, 0, none⟩ 13) = some (.int .i64 n13) ∧ w.cell? (Addr.add ⟨b, 0, none⟩ 14) = some (.slice a l c) ∧ w.cell? (Addr.add ⟨b, 0, none⟩ 15) = some (.slice a' l' c') ∧ w.cell? (Addr.add ⟨b, 0, none⟩ 16) = some (.int .i64 n14) ∧ True) ∧ K n0 n1 n2 n3 n4 n5 n6 n7 n8 n9 n10 n11 n12 n13 a l c a' l' c' n14 :=
  ⟨_, _, _, _, _, _, _, _, _, _, _, _, _, _, _, _, _, _, _, _, _, ⟨h.at rfl rfl, h.at rfl rfl, h.at rfl rfl, h.at rfl rfl, h.at rfl rfl, h.at rfl rfl, h.at rfl rfl, h.at rfl rfl, h.at rfl rfl, h.at rfl rfl, h.at rfl rfl, h.at rfl rfl, h.at rfl rfl, h.at rfl rfl, h.at rfl rfl, h.at rfl rfl, h.at rfl rfl, trivial⟩, hk⟩

theorem cnt_cp {w : World} (r : RV) {K : Nat → World → Prop} (h : ∀ b w', Loc w w' b #[.int .i64 r.id, .int .i64 r.grp, .int .i64 r.lo, .int .i64 r.hi, .int .i64 r.val] T_api_Counter → K b w') :
    AlF w (.cells #[.int .i64 0, .int .i64 0, .int .i64 0, .int .i64 0, .int .i64 0] T_api_Counter) fun b w1 => StF w1 ⟨b, 0, none⟩ (.int .i64 r.id) fun w2 => StF w2 (Addr.add ⟨b, 0, none⟩ 1) (.int .i64 r.grp) fun w3 =>
      StF w3 (Addr.add ⟨b, 0, none⟩ 2) (.int .i64 r.lo) fun w4 => StF w4 (Addr.add ⟨b, 0, none⟩ 3) (.int .i64 r.hi) fun w5 => StF w5 (Addr.add ⟨b, 0, none⟩ 4) (.int .i64 r.val) fun w6 => K b w6 :=
  Loc.al (Kp.refl _ w) fun b w1 h1 k1 g1 => h1.st rfl (by simp) fun w2 h2 _ => h2.st rfl (by simp) fun w3 h3 _ => h3.st rfl (by simp) fun w4 h4 _ => h4.st rfl (by simp) fun w5 h5 _ => h5.st rfl (by simp) fun w6 h6 _ => h b w6 h6

theorem Loc.st2 {w0 w : World} {b1 b2 o : Nat} {cs1 cs : Array Value} {T1 T : TypeId} {ad : Addr} {v : Value} {K : World → Prop} (h1 : Loc w0 w b1 cs1 T1) (h : Loc w0 w b2 cs T) (hne : b1 ≠ b2) (had : ad = ⟨b2, o, none⟩) (ho : o < cs.size)
    (hk : ∀ w', Loc w0 w' b1 cs1 T1 → Loc w0 w' b2 (cs.setIfInBounds o v) T → K w') : StF w ad v K :=
  h.st had ho fun w' h' k' => hk w' (h1.of k' hne h'.kp) h'

/-- What a record's kind asks of its fields. -/
def okB (r : RV) : Bool :=
  inB r.lsn 0 2147483647 &&
  (if r.kind = 2 then slB r.wp r.wi r.sp r.si && inB r.id 1 1048576 && inB r.grp 1 1048576 && decide (r.lo ≤ r.val ∧ r.val ≤ r.hi) && decide (r.tx = 0 ∧ r.prev = 0 ∧ r.delta = 0 ∧ r.next = 0 ∧ r.live.length = 0 ∧ r.dirty.length = 0)
  else if r.kind = 8 then cpB r.next r.lsn r.live r.dirty && decide (r.tx = 0 ∧ r.prev = 0 ∧ r.wp = 0 ∧ r.wi = 0 ∧ r.sp = 0 ∧ r.si = 0 ∧ r.delta = 0 ∧ r.id = 0 ∧ r.grp = 0 ∧ r.lo = 0 ∧ r.hi = 0 ∧ r.val = 0)
  else if r.kind = 3 ∨ r.kind = 4 then slB r.wp r.wi r.sp r.si && inB r.id 1 1048576 && (inB r.prev 1 2147483647 && belB r.prev r.lsn) && inB r.tx 1 2147483647 && decide (r.grp = 0 ∧ r.lo = 0 ∧ r.hi = 0 ∧ r.val = 0 ∧ r.next = 0 ∧ r.live.length = 0 ∧ r.dirty.length = 0)
  else if r.kind = 5 ∨ r.kind = 6 ∨ r.kind = 7 then (inB r.prev 1 2147483647 && belB r.prev r.lsn) && inB r.tx 1 2147483647 && decide (r.wp = 0 ∧ r.wi = 0 ∧ r.sp = 0 ∧ r.si = 0 ∧ r.delta = 0 ∧ r.id = 0 ∧ r.grp = 0 ∧ r.lo = 0 ∧ r.hi = 0 ∧ r.val = 0 ∧ r.next = 0 ∧ r.live.length = 0 ∧ r.dirty.length = 0)
  else inB r.tx 1 2147483647 && decide (r.prev = 0 ∧ r.wp = 0 ∧ r.wi = 0 ∧ r.sp = 0 ∧ r.si = 0 ∧ r.delta = 0 ∧ r.id = 0 ∧ r.grp = 0 ∧ r.lo = 0 ∧ r.hi = 0 ∧ r.val = 0 ∧ r.next = 0 ∧ r.live.length = 0 ∧ r.dirty.length = 0))
def chkN (r : RV) : Nat := if r.kind < 1 ∨ 8 < r.kind then 70 else if okB r then 0 else 23

/-- Check's two records. -/
structure Ck (w0 w : World) (b1 b2 : Nat) (r : RV) (m : Mm) (r2 : RV) (m2 : Mm) : Prop where
  l1 : Loc w0 w b1 (r.ca m) T_api_Record
  l2 : Loc w0 w b2 (r2.ca m2) T_api_Record

theorem Ck.st {w0 w : World} {b1 b2 o : Nat} {r : RV} {m : Mm} {r2 : RV} {m2 : Mm} {ad : Addr} {v : Value} {K : World → Prop} (h : Ck w0 w b1 b2 r m r2 m2) (hne : b1 ≠ b2) (r3 : RV) (m3 : Mm) (had : ad = ⟨b2, o, none⟩) (ho : o < 17)
    (he : (r2.ca m2).setIfInBounds o v = r3.ca m3) (hk : ∀ w', Ck w0 w' b1 b2 r m r3 m3 → K w') : StF w ad v K :=
  h.l1.st2 h.l2 hne had ho fun w' h1 h2 => hk w' ⟨h1, he ▸ h2⟩

theorem check_c {w : World} {r : RV} {m : Mm} {R : Ending → World → Prop} (hi : LiIn w m r.live r.dirty) (h : ∀ w', Kp no w w' → R (.returned (.int .i64 (chkN r : Int))) w') : GoC Try.prog F_record_Check #[.agg (r.ca m)] w R := by
  refine S_record_Check ?_
  unfold W_record_Check
  have hll := hi.ll
  have hdl := hi.dl
  refine Loc.al (Kp.refl _ w) fun b1 w1 h1 k1 g1 => ?_
  refine ⟨_, h1.at rfl rfl, cond_d (fun a1 => ?_) (fun a1 => ⟨_, h1.at rfl rfl, cond_d (fun a2 => ?_) (fun a2 => ?_)⟩)⟩
  · have := h w1 h1.kp
    unfold chkN at this
    rw [if_pos (by omega)] at this
    exact this
  · have := h w1 h1.kp
    unfold chkN at this
    rw [if_pos (by omega)] at this
    exact this
  have hfin : ∀ w', Kp no w w' → R (.returned (.int .i64 ((if okB r then 0 else 23 : Nat) : Int))) w' := fun w' k' => by
    have := h w' k'
    unfold chkN at this
    rw [if_neg (by omega)] at this
    exact this
  refine ⟨_, h1.at rfl rfl, rin_c ⟨_, rfl, ?_⟩⟩
  refine rec_rd h1.blk (rec_cp r m fun b2 w2 h2 => ?_)
  have hne : b1 ≠ b2 := by have := h1.blk.lt; have := h2.nw; omega
  have l1 := h1.kp' h2.kp
  have l2 := h2.up h1.kp
  clear h1 h2
  refine ⟨fun s w' => ∃ r2 m2, Ck w w' b1 b2 r m r2 m2 ∧ (s.1 && blB r2 m2) = okB r, ?_, ?_⟩
  · refine ⟨_, l1.at rfl rfl, ?_⟩
    refine ⟨fun s w' => ∃ r2 m2, Ck w w' b1 b2 r m r2 m2 ∧ (s.1 && inB r.tx 1 2147483647 && blB { r2 with tx := 0 } m2) = okB r, ?_, ?_⟩
    · refine ⟨fun s w' => ∃ r2 m2, Ck w w' b1 b2 r m r2 m2 ∧ (s.1 && (inB r.prev 1 2147483647 && belB r.prev r.lsn) && inB r.tx 1 2147483647 && blB { r2 with prev := 0, tx := 0 } m2) = okB r, ?_, ?_⟩
      · -- by kind
        have hc : Ck w w2 b1 b2 r m r m := ⟨l1, l2⟩
        have c34 : (r.kind = 3 ∨ r.kind = 4) → ∀ K20 : (Bool × Unit) → World → Prop, (∀ (s : Bool × Unit) w', Ck w w' b1 b2 r m r m → s.1 = (inB r.lsn 0 2147483647 && (slB r.wp r.wi r.sp r.si && inB r.id 1 1048576)) → K20 s w') →
            cond (inB r.lsn 0 2147483647) (∃ (n52 : Int) (n53 : Int), (w2.cell? (Addr.add ⟨b1, 0, none⟩ 4) = some (.int .i64 n52) ∧ w2.cell? (Addr.add (Addr.add ⟨b1, 0, none⟩ 4) 1) = some (.int .i64 n53) ∧ True) ∧ (∃ (n54 : Int) (n55 : Int), (w2.cell? (Addr.add ⟨b1, 0, none⟩ 6) = some (.int .i64 n54) ∧ w2.cell? (Addr.add (Addr.add ⟨b1, 0, none⟩ 6) 1) = some (.int .i64 n55) ∧ True) ∧ (CallF Try.prog F_record_slots #[(.agg #[(.int .i64 n52), (.int .i64 n53)]), (.agg #[(.int .i64 n54), (.int .i64 n55)])] w2 (fun r6 w45 => ∃ (q6 : Bool), r6 = (.bool q6) ∧ (cond q6 (∃ (n56 : Int), w45.cell? (Addr.add ⟨b1, 0, none⟩ 9) = some (.int .i64 n56) ∧ (CallF Try.prog F_record_in #[(.int .i64 n56), (.int .i64 (1 : Int)), (.int .i64 (1048576 : Int))] w45 (fun r7 w46 => ∃ (q7 : Bool), r7 = (.bool q7) ∧ (K20 (q7, ()) w46)) (PanF R))) (K20 (false, ()) w45))) (PanF R)))) (K20 (false, ()) w2) := by
          intro hk K20 hK
          refine cond_b (fun q1 => ?_) (fun q1 => hK _ _ hc (by rw [q1]; rfl))
          refine ⟨_, _, ⟨l1.at rfl rfl, l1.at rfl rfl, trivial⟩, _, _, ⟨l1.at rfl rfl, l1.at rfl rfl, trivial⟩, ?_⟩
          refine slots_c fun w3 k3 => ⟨_, rfl, cond_b (fun q2 => ?_) (fun q2 => hK _ _ ⟨l1.kp' k3, l2.kp' k3⟩ (by rw [q1, q2]; rfl))⟩
          refine ⟨_, (l1.kp' k3).at rfl rfl, rin_c ⟨_, rfl, hK _ _ ⟨l1.kp' k3, l2.kp' k3⟩ (by rw [q1, q2]; rfl)⟩⟩
        have f34 : (r.kind = 3 ∨ r.kind = 4) → ∀ m', m' = m → ∀ s : Bool × Unit, s.1 = (inB r.lsn 0 2147483647 && (slB r.wp r.wi r.sp r.si && inB r.id 1 1048576)) → (s.1 && (inB r.prev 1 2147483647 && belB r.prev r.lsn) && inB r.tx 1 2147483647 && blB { r with wp := 0, wi := 0, sp := 0, si := 0, id := 0, delta := 0, prev := 0, tx := 0 } m') = okB r := by
          intro hk m' hm s hs
          subst hm
          unfold okB
          rw [if_neg (by omega), if_neg (by omega), if_pos hk, hs]
          have : blB { r with wp := 0, wi := 0, sp := 0, si := 0, id := 0, delta := 0, prev := 0, tx := 0 } m' = decide (r.grp = 0 ∧ r.lo = 0 ∧ r.hi = 0 ∧ r.val = 0 ∧ r.next = 0 ∧ r.live.length = 0 ∧ r.dirty.length = 0) := by
            unfold blB
            refine decide_eq_decide.2 ?_
            dsimp only
            omega
          rw [this]
          simp only [Bool.and_assoc]
        have f567 : (r.kind = 5 ∨ r.kind = 6 ∨ r.kind = 7) → (inB r.lsn 0 2147483647 && (inB r.prev 1 2147483647 && belB r.prev r.lsn) && inB r.tx 1 2147483647 && blB { r with prev := 0, tx := 0 } m) = okB r := by
          intro hk
          unfold okB
          rw [if_neg (by omega), if_neg (by omega), if_neg (by omega), if_pos hk]
          have : blB { r with prev := 0, tx := 0 } m = decide (r.wp = 0 ∧ r.wi = 0 ∧ r.sp = 0 ∧ r.si = 0 ∧ r.delta = 0 ∧ r.id = 0 ∧ r.grp = 0 ∧ r.lo = 0 ∧ r.hi = 0 ∧ r.val = 0 ∧ r.next = 0 ∧ r.live.length = 0 ∧ r.dirty.length = 0) := by
            unfold blB
            refine decide_eq_decide.2 ?_
            dsimp only
            omega
          rw [this]
          simp only [Bool.and_assoc]
        refine cond_eq (fun e2 => ?_) fun n2 => cond_eq (fun e8 => ?_) fun n8 => cond_eq (fun e3 => cond_eq (fun _ => ?_) fun hh => absurd e3 hh) fun n3 => cond_eq (fun e4 => ?_) fun n4 =>
          cond_eq (fun e5 => cond_eq (fun _ => ⟨r, m, hc, f567 (by omega)⟩) fun hh => absurd e5 hh) fun n5 => cond_eq (fun e6 => cond_eq (fun _ => ⟨r, m, hc, f567 (by omega)⟩) fun hh => absurd e6 hh) fun n6 =>
          cond_eq (fun e7 => ⟨r, m, hc, f567 (by omega)⟩) fun n7 => cond_eq (fun e1 => ⟨r, m, hc, ?_⟩) fun n1 => by omega
        · -- Create
          refine ⟨_, _, _, _, _, ⟨l1.at rfl rfl, l1.at rfl rfl, l1.at rfl rfl, l1.at rfl rfl, l1.at rfl rfl, trivial⟩, ?_⟩
          refine cnt_cp r fun b3 w3 h3 => ?_
          have hc3 : Ck w w3 b1 b2 r m r m := ⟨l1.kp' h3.kp, l2.kp' h3.kp⟩
          refine ⟨fun s w' => Ck w w' b1 b2 r m r m ∧ s.1 = (inB r.lsn 0 2147483647 && (slB r.wp r.wi r.sp r.si && inB r.id 1 1048576 && inB r.grp 1 1048576 && decide (r.lo ≤ r.val ∧ r.val ≤ r.hi))), ?_, ?_⟩
          · refine cond_b (fun q1 => ?_) (fun q1 => ⟨hc3, by rw [q1]; rfl⟩)
            refine ⟨_, _, ⟨hc3.l1.at rfl rfl, hc3.l1.at rfl rfl, trivial⟩, _, _, ⟨hc3.l1.at rfl rfl, hc3.l1.at rfl rfl, trivial⟩, ?_⟩
            refine slots_c fun w4 k4 => ?_
            have hc4 : Ck w w4 b1 b2 r m r m := ⟨hc3.l1.kp' k4, hc3.l2.kp' k4⟩
            have h4 := h3.kp' k4
            refine ⟨_, rfl, cond_b (fun q2 => ?_) (fun q2 => ⟨hc4, by rw [q1, q2]; rfl⟩)⟩
            refine ⟨_, h4.at rfl rfl, rin_c ⟨_, rfl, cond_b (fun q3 => ?_) (fun q3 => ⟨hc4, by rw [q1, q2, q3]; rfl⟩)⟩⟩
            refine ⟨_, h4.at rfl rfl, rin_c ⟨_, rfl, cond_b (fun q4 => ?_) (fun q4 => ⟨hc4, by rw [q1, q2, q3, q4]; rfl⟩)⟩⟩
            refine ⟨_, h4.at rfl rfl, _, h4.at rfl rfl, cond_d (fun q5 => ?_) (fun q5 => ⟨hc4, ?_⟩)⟩
            · refine ⟨_, h4.at rfl rfl, _, h4.at rfl rfl, hc4, ?_⟩
              rw [q1, q2, q3, q4]
              exact decide_eq_decide.2 (by omega)
            · rw [q1, q2, q3, q4]
              exact (decide_eq_false (by omega)).symm
          · rintro ⟨q, u⟩ w4 ⟨h4, hq⟩ _
            dsimp only at hq
            refine h4.st hne { r with wp := 0 } m rfl (Nat.le_of_ble_eq_true rfl) rfl fun w5 h4 => ?_
            refine h4.st hne { r with wp := 0, wi := 0 } m rfl (Nat.le_of_ble_eq_true rfl) rfl fun w5 h4 => ?_
            refine h4.st hne { r with wp := 0, wi := 0, sp := 0 } m rfl (Nat.le_of_ble_eq_true rfl) rfl fun w5 h4 => ?_
            refine h4.st hne { r with wp := 0, wi := 0, sp := 0, si := 0 } m rfl (Nat.le_of_ble_eq_true rfl) rfl fun w5 h4 => ?_
            refine h4.st hne { r with wp := 0, wi := 0, sp := 0, si := 0, id := 0 } m rfl (Nat.le_of_ble_eq_true rfl) rfl fun w5 h4 => ?_
            refine h4.st hne { r with wp := 0, wi := 0, sp := 0, si := 0, id := 0, grp := 0 } m rfl (Nat.le_of_ble_eq_true rfl) rfl fun w5 h4 => ?_
            refine h4.st hne { r with wp := 0, wi := 0, sp := 0, si := 0, id := 0, grp := 0, lo := 0 } m rfl (Nat.le_of_ble_eq_true rfl) rfl fun w5 h4 => ?_
            refine h4.st hne { r with wp := 0, wi := 0, sp := 0, si := 0, id := 0, grp := 0, lo := 0, hi := 0 } m rfl (Nat.le_of_ble_eq_true rfl) rfl fun w5 h4 => ?_
            refine h4.st hne { r with wp := 0, wi := 0, sp := 0, si := 0, id := 0, grp := 0, lo := 0, hi := 0, val := 0 } m rfl (Nat.le_of_ble_eq_true rfl) rfl fun w5 h4 => ?_
            refine ⟨_, _, h4, ?_⟩
            dsimp only
            have : blB { r with wp := 0, wi := 0, sp := 0, si := 0, id := 0, grp := 0, lo := 0, hi := 0, val := 0 } m = decide (r.tx = 0 ∧ r.prev = 0 ∧ r.delta = 0 ∧ r.next = 0 ∧ r.live.length = 0 ∧ r.dirty.length = 0) := by
              unfold blB
              refine decide_eq_decide.2 ?_
              dsimp only
              omega
            rw [this, hq]
            unfold okB
            rw [if_pos e2]
            simp only [Bool.and_assoc]
        · -- Checkpoint
          refine ⟨fun s w' => Ck w w' b1 b2 r m r m ∧ s.1 = (inB r.lsn 0 2147483647 && cpB r.next r.lsn r.live r.dirty), ?_, ?_⟩
          · refine cond_b (fun q1 => ?_) (fun q1 => ⟨hc, by rw [q1]; rfl⟩)
            refine ⟨_, _, _, _, _, _, _, ⟨l1.at rfl rfl, l1.at rfl rfl, l1.at rfl rfl, trivial⟩, _, l1.at rfl rfl, ?_⟩
            refine checkpoint_c (m := m) (hi.kp0 l1.kp) fun w4 k4 => ⟨_, rfl, ⟨l1.kp' k4, l2.kp' k4⟩, by rw [q1]; rfl⟩
          · rintro ⟨q, u⟩ w4 ⟨h4, hq⟩ _
            dsimp only at hq
            refine h4.st hne r { m with la := none, ll := 0, lc := 0 } rfl (Nat.le_of_ble_eq_true rfl) rfl fun w5 h4 => ?_
            refine h4.st hne r {} rfl (Nat.le_of_ble_eq_true rfl) rfl fun w5 h4 => ?_
            refine h4.st hne { r with next := 0 } {} rfl (Nat.le_of_ble_eq_true rfl) rfl fun w5 h4 => ?_
            refine ⟨_, _, h4, ?_⟩
            dsimp only
            have : blB { r with next := 0 } {} = decide (r.tx = 0 ∧ r.prev = 0 ∧ r.wp = 0 ∧ r.wi = 0 ∧ r.sp = 0 ∧ r.si = 0 ∧ r.delta = 0 ∧ r.id = 0 ∧ r.grp = 0 ∧ r.lo = 0 ∧ r.hi = 0 ∧ r.val = 0) := by
              unfold blB
              refine decide_eq_decide.2 ?_
              dsimp only
              omega
            rw [this, hq]
            unfold okB
            rw [if_neg n2, if_pos e8]
            simp only [Bool.and_assoc]
        · refine ⟨fun s w' => Ck w w' b1 b2 r m r m ∧ s.1 = (inB r.lsn 0 2147483647 && (slB r.wp r.wi r.sp r.si && inB r.id 1 1048576)), c34 (.inl e3) (fun s w' => Ck w w' b1 b2 r m r m ∧ s.1 = (inB r.lsn 0 2147483647 && (slB r.wp r.wi r.sp r.si && inB r.id 1 1048576))) fun s w' hc' hs => ⟨hc', hs⟩, ?_⟩
          rintro ⟨q, u⟩ w4 ⟨h4, hq⟩ _
          refine h4.st hne { r with wp := 0 } m rfl (Nat.le_of_ble_eq_true rfl) rfl fun w5 h4 => ?_
          refine h4.st hne { r with wp := 0, wi := 0 } m rfl (Nat.le_of_ble_eq_true rfl) rfl fun w5 h4 => ?_
          refine h4.st hne { r with wp := 0, wi := 0, sp := 0 } m rfl (Nat.le_of_ble_eq_true rfl) rfl fun w5 h4 => ?_
          refine h4.st hne { r with wp := 0, wi := 0, sp := 0, si := 0 } m rfl (Nat.le_of_ble_eq_true rfl) rfl fun w5 h4 => ?_
          refine h4.st hne { r with wp := 0, wi := 0, sp := 0, si := 0, id := 0 } m rfl (Nat.le_of_ble_eq_true rfl) rfl fun w5 h4 => ?_
          refine h4.st hne { r with wp := 0, wi := 0, sp := 0, si := 0, id := 0, delta := 0 } m rfl (Nat.le_of_ble_eq_true rfl) rfl fun w5 h4 => ?_
          exact ⟨_, _, h4, f34 (.inl e3) m rfl (q, u) hq⟩
        · refine ⟨fun s w' => Ck w w' b1 b2 r m r m ∧ s.1 = (inB r.lsn 0 2147483647 && (slB r.wp r.wi r.sp r.si && inB r.id 1 1048576)), c34 (.inr e4) (fun s w' => Ck w w' b1 b2 r m r m ∧ s.1 = (inB r.lsn 0 2147483647 && (slB r.wp r.wi r.sp r.si && inB r.id 1 1048576))) fun s w' hc' hs => ⟨hc', hs⟩, ?_⟩
          rintro ⟨q, u⟩ w4 ⟨h4, hq⟩ _
          refine h4.st hne { r with wp := 0 } m rfl (Nat.le_of_ble_eq_true rfl) rfl fun w5 h4 => ?_
          refine h4.st hne { r with wp := 0, wi := 0 } m rfl (Nat.le_of_ble_eq_true rfl) rfl fun w5 h4 => ?_
          refine h4.st hne { r with wp := 0, wi := 0, sp := 0 } m rfl (Nat.le_of_ble_eq_true rfl) rfl fun w5 h4 => ?_
          refine h4.st hne { r with wp := 0, wi := 0, sp := 0, si := 0 } m rfl (Nat.le_of_ble_eq_true rfl) rfl fun w5 h4 => ?_
          refine h4.st hne { r with wp := 0, wi := 0, sp := 0, si := 0, id := 0 } m rfl (Nat.le_of_ble_eq_true rfl) rfl fun w5 h4 => ?_
          refine h4.st hne { r with wp := 0, wi := 0, sp := 0, si := 0, id := 0, delta := 0 } m rfl (Nat.le_of_ble_eq_true rfl) rfl fun w5 h4 => ?_
          exact ⟨_, _, h4, f34 (.inr e4) m rfl (q, u) hq⟩
        · -- Begin
          have : blB { r with tx := 0 } m = decide (r.prev = 0 ∧ r.wp = 0 ∧ r.wi = 0 ∧ r.sp = 0 ∧ r.si = 0 ∧ r.delta = 0 ∧ r.id = 0 ∧ r.grp = 0 ∧ r.lo = 0 ∧ r.hi = 0 ∧ r.val = 0 ∧ r.next = 0 ∧ r.live.length = 0 ∧ r.dirty.length = 0) := by
            unfold blB
            refine decide_eq_decide.2 ?_
            dsimp only
            omega
          dsimp only
          rw [this]
          unfold okB
          rw [if_neg n2, if_neg n8, if_neg (by omega), if_neg (by omega)]
          simp only [Bool.and_assoc]
      · rintro ⟨q, u⟩ w3 ⟨r2, m2, hc, hq⟩ _
        dsimp only at hq
        refine ⟨fun s w' => Ck w w' b1 b2 r m r2 m2 ∧ s.1 = (q && (inB r.prev 1 2147483647 && belB r.prev r.lsn)), ?_, ?_⟩
        · refine cond_b (fun q1 => ?_) (fun q1 => ⟨hc, by dsimp only at q1; rw [q1]; rfl⟩)
          dsimp only at q1
          refine ⟨_, hc.l1.at rfl rfl, rin_c ⟨_, rfl, cond_b (fun q2 => ?_) (fun q2 => ⟨hc, by rw [q1, q2]; rfl⟩)⟩⟩
          refine ⟨_, hc.l1.at rfl rfl, _, hc.l1.at rfl rfl, below_c ⟨_, rfl, hc, by rw [q1, q2]; rfl⟩⟩
        · rintro ⟨q', u'⟩ w4 ⟨hc4, hq4⟩ _
          dsimp only at hq4
          refine hc4.st hne { r2 with prev := 0 } m2 rfl (Nat.le_of_ble_eq_true rfl) rfl fun w5 h5 => ⟨_, _, h5, ?_⟩
          dsimp only
          rw [hq4]
          exact hq
    · rintro ⟨q, u⟩ w3 ⟨r2, m2, hc, hq⟩ _
      dsimp only at hq
      refine ⟨fun s w' => Ck w w' b1 b2 r m r2 m2 ∧ s.1 = (q && inB r.tx 1 2147483647), ?_, ?_⟩
      · refine cond_b (fun q1 => ?_) (fun q1 => ⟨hc, by dsimp only at q1; rw [q1]; rfl⟩)
        dsimp only at q1
        refine ⟨_, hc.l1.at rfl rfl, rin_c ⟨_, rfl, hc, by rw [q1]; rfl⟩⟩
      · rintro ⟨q', u'⟩ w4 ⟨hc4, hq4⟩ _
        dsimp only at hq4
        refine hc4.st hne { r2 with tx := 0 } m2 rfl (Nat.le_of_ble_eq_true rfl) rfl fun w5 h5 => ⟨_, _, h5, ?_⟩
        dsimp only
        rw [hq4]
        exact hq
  · rintro ⟨q, u⟩ w3 ⟨r2, m2, hc, hq⟩ _
    dsimp only at hq
    refine cond_not (cond_b (fun a => ?_) (fun a => ?_))
    · refine rec_rd hc.l2.blk (blank_c (r := r2) (m := m2) fun w4 k4 => ⟨_, rfl, ?_⟩)
      have a' : q = true := a
      rw [a', Bool.true_and] at hq
      rw [hq]
      have hh := hfin w4 (hc.l2.kp.trans0 k4)
      refine cond_not (cond_b (fun b => ?_) (fun b => ?_))
      · rw [b] at hh
        exact hh
      · rw [b] at hh
        exact hh
    · have a' : q = false := a
      rw [a', Bool.false_and] at hq
      have hh := hfin w3 hc.l2.kp
      rw [← hq] at hh
      exact hh
end Go.Proofs.Ytjhncijdkmbopaa
/-! The contract of the package record's fields. Conditions: none. -/
set_option linter.unusedVariables false
set_option linter.unusedSimpArgs false
namespace Go.Proofs.Ytjhncijdkmbopaa
open Go Go.RowKit

theorem er_pint : ElemRow Try.prog T_s_p_int T_p_int (.pointer none) 1 8 := elemRow (by kernel_rfl) (by kernel_rfl) rfl

/-- Where a record's numbers stand, by its kind. -/
def iof (k : Int) : List Nat := if k = 2 then [4, 5, 6, 7, 9, 10] else if k = 8 then [16] else if k = 3 ∨ k = 4 then [2, 3, 4, 5, 6, 7, 9] else if k = 5 ∨ k = 6 ∨ k = 7 then [2, 3] else [2]
def sof (k : Int) : List Nat := if k = 2 then [11, 12, 13] else if k = 3 ∨ k = 4 then [8] else []
def pv (b o : Nat) : Value := .pointer (some ⟨b, o, none⟩)

/-- One pointer ahead of others. -/
theorem ahead_c {w0 w : World} {b o : Nat} {a : Option Addr} {l c : Nat} {xs : List Value} (k : Kp no w0 w) (hr : Rd w a xs) (hl : xs.length = l) (h0 : a = none → l = 0) (hl7 : l ≤ 20) (h1 : ∀ u ∈ xs, u.oneCell' = true) {ad : Addr} (had : ad = ⟨b, o, none⟩) {K : Option Addr → Nat → Nat → World → Prop}
    (h : ∀ a' c' w', Kp no w0 w' → Kp no w w' → Rd w' a' (pv b o :: xs) → a' ≠ none → (∀ k, Is a' k → w.heap.size ≤ k) → K a' (l + 1) c' w') :
    AlF w (.cells #[.pointer (some ad)] T_p_int) fun b8 w10 => RunF Try.prog (Builtin.append_ #[T_s_p_int, T_s_p_int] T_s_p_int #[.slice (some ⟨b8, 0, none⟩) 1 1, .slice a l c]) w10 fun r1 w11 => ∃ (a1 : Option Addr) (l1 c1 : Nat), r1 = .slice a1 l1 c1 ∧ K a1 l1 c1 w11 := by
  subst had
  refine AlF.intro fun b8 w1 hb8 hblk k1 _ => ?_
  have hs0 : Sl w1 T_p_int 1 (some ⟨b8, 0, none⟩) 1 1 [pv b o] := ⟨rfl, Nat.le_refl _, .inr ⟨b8, _, rfl, hblk, rfl, rfl⟩⟩
  refine append_own er_pint hs0 (hr.kp0 k1) (by rw [hl]; omega) h0 h1 (by omega) (by omega) fun a' c' w' hs' hk hi _ _ => ?_
  have kk : Kp no w w' := k1.trans hk (fun _ _ h => h) fun j hj hh => by
    obtain ⟨ad, had, hj2⟩ := hh
    cases had
    dsimp only at hj2
    omega
  have e : 1 + l = l + 1 := by omega
  rw [e]
  refine ⟨a', l + 1, c', rfl, h a' c' w' (k.trans0 kk) kk hs'.rd ?_ fun j hj => ?_⟩
  rotate_left
  · rcases hi j hj with ⟨ad, had, hj2⟩ | hj2
    · cases had
      dsimp only at hj2
      omega
    · have := k1.size
      omega
  intro hn
  obtain ⟨b', cur, ha, _⟩ := hs'.addr (by omega)
  rw [hn] at ha
  cases ha

theorem fr_some {w : World} {b o : Nat} (h : w.heap.size ≤ b) : Fresh w (some ⟨b, o, none⟩) := fun k hk => by
  obtain ⟨ad, had, hk⟩ := hk
  cases had
  dsimp only at hk
  omega

theorem pv_one {b : Nat} {l : List Nat} : ∀ u ∈ l.map (pv b), u.oneCell' = true := fun u hu => by
  obtain ⟨x, _, rfl⟩ := List.mem_map.1 hu
  rfl

theorem fields_c {w : World} {b : Nat} {r : RV} {m : Mm} {R : Ending → World → Prop} (hb : Blk w b (r.ca m) T_api_Record) (hk1 : 1 ≤ r.kind) (hk8 : r.kind ≤ 8)
    (h : ∀ a c a' c' w', Kp no w w' → Rd w' a ((iof r.kind).map (pv b)) → Rd w' a' ((sof r.kind).map (pv b)) → Fresh w a → Fresh w a' → R (.returned (.tuple #[.slice a (iof r.kind).length c, .slice a' (sof r.kind).length c'])) w') : GoC Try.prog F_record_fields #[.pointer (some ⟨b, 0, none⟩)] w R := by
  refine S_record_fields ?_
  unfold W_record_fields
  refine NilF.intro rfl ⟨_, hb.at rfl rfl, ?_⟩
  refine ⟨fun s w' => r.kind ≠ 2 ∧ r.kind ≠ 8 ∧ Kp no w w' ∧ ∃ A B : List Nat, iof r.kind = 2 :: A ∧ sof r.kind = B ∧ A.length ≤ 10 ∧ Rd w' s.1.1 (A.map (pv b)) ∧ A.length = s.1.2.1 ∧ (s.1.1 = none → s.1.2.1 = 0) ∧ Rd w' s.2.1.1 (B.map (pv b)) ∧ B.length = s.2.1.2.1 ∧ Fresh w s.2.1.1, ?_, ?_⟩
  · refine ⟨fun s w' => r.kind ≠ 2 ∧ r.kind ≠ 8 ∧ Kp no w w' ∧ ∃ A B : List Nat, iof r.kind = 2 :: 3 :: A ∧ sof r.kind = B ∧ A.length ≤ 9 ∧ Rd w' s.1.1 (A.map (pv b)) ∧ A.length = s.1.2.1 ∧ (s.1.1 = none → s.1.2.1 = 0) ∧ Rd w' s.2.1.1 (B.map (pv b)) ∧ B.length = s.2.1.2.1 ∧ Fresh w s.2.1.1, ?_, ?_⟩
    · refine ⟨fun _ w' => w' = w ∧ (r.kind = 3 ∨ r.kind = 4), ?_, ?_⟩
      · have c567 : (r.kind = 5 ∨ r.kind = 6 ∨ r.kind = 7) → iof r.kind = 2 :: 3 :: [] ∧ sof r.kind = [] := fun hh => by
          unfold iof sof
          rw [if_neg (by omega), if_neg (by omega), if_neg (by omega), if_pos hh, if_neg (by omega), if_neg (by omega)]
          exact ⟨rfl, rfl⟩
        have j14 : (r.kind = 5 ∨ r.kind = 6 ∨ r.kind = 7) → r.kind ≠ 2 ∧ r.kind ≠ 8 ∧ Kp no w w ∧ ∃ A B : List Nat, iof r.kind = 2 :: 3 :: A ∧ sof r.kind = B ∧ A.length ≤ 9 ∧ Rd w none (A.map (pv b)) ∧ A.length = 0 ∧ ((none : Option Addr) = none → 0 = 0) ∧ Rd w none (B.map (pv b)) ∧ B.length = 0 ∧ Fresh w none := fun hh =>
          ⟨by omega, by omega, Kp.refl _ _, [], [], (c567 hh).1, (c567 hh).2, by simp, Rd.nil _ _, rfl, fun _ => rfl, Rd.nil _ _, rfl, fun k hk => (is_none hk).elim⟩
        refine cond_eq (fun e2 => ?_) fun n2 => cond_eq (fun e8 => ?_) fun n8 => cond_eq (fun e3 => cond_eq (fun _ => ⟨rfl, .inl e3⟩) fun hh => absurd e3 hh) fun n3 => cond_eq (fun e4 => ⟨rfl, .inr e4⟩) fun n4 =>
          cond_eq (fun e5 => cond_eq (fun _ => j14 (by omega)) fun hh => absurd e5 hh) fun n5 => cond_eq (fun e6 => cond_eq (fun _ => j14 (by omega)) fun hh => absurd e6 hh) fun n6 =>
          cond_eq (fun e7 => j14 (by omega)) fun n7 => ?_
        · -- Create
          have hi : iof r.kind = [4, 5, 6, 7, 9, 10] := by unfold iof; rw [if_pos e2]
          have hs : sof r.kind = [11, 12, 13] := by unfold sof; rw [if_pos e2]
          rw [hi, hs] at h
          refine NilF.intro rfl ⟨fun w' => Kp no w w', Kp.drew w 1, NilF.intro rfl (NilF.intro rfl (NilF.intro rfl (NilF.intro rfl ⟨?_, ?_⟩)))⟩
          · refine AlF.intro fun b1 w1 hb1e hb1 k1 _ => ⟨(Kp.drew w 1).trans0 k1, AlF.intro fun b2 w2 hb2e hb2 k2 _ => ⟨((Kp.drew w 1).trans0 k1).trans0 k2, h _ _ _ _ w2 (((Kp.drew w 1).trans0 k1).trans0 k2) (rd_cells (k2.blk hb1 id) rfl) (rd_cells hb2 rfl) (fr_some (by rw [hb1e]; exact Nat.le_refl _)) (fr_some (by rw [hb2e]; exact ((Kp.drew w 1).trans0 k1).size))⟩⟩
          · refine AlF.intro fun b1 w1 hb1e hb1 k1 _ => ⟨(Kp.drew w 1).trans0 k1, AlF.intro fun b2 w2 hb2e hb2 k2 _ => ⟨((Kp.drew w 1).trans0 k1).trans0 k2, h _ _ _ _ w2 (((Kp.drew w 1).trans0 k1).trans0 k2) (rd_cells hb2 rfl) (rd_cells (k2.blk hb1 id) rfl) (fr_some (by rw [hb2e]; exact ((Kp.drew w 1).trans0 k1).size)) (fr_some (by rw [hb1e]; exact Nat.le_refl _))⟩⟩
        · have hi : iof r.kind = [16] := by unfold iof; rw [if_neg n2, if_pos e8]
          have hs : sof r.kind = [] := by unfold sof; rw [if_neg n2, if_neg (by omega)]
          rw [hi, hs] at h
          refine NilF.intro rfl (AlF.intro fun b1 w1 hb1e hb1 k1 _ => h _ _ _ _ w1 k1 (rd_cells hb1 rfl) (Rd.nil _ _) (fr_some (by omega)) fun k hk => (is_none hk).elim)
        · have e1 : r.kind = 1 := by omega
          have hi : iof r.kind = [2] := by unfold iof; rw [if_neg n2, if_neg n8, if_neg (by omega), if_neg (by omega)]
          have hs : sof r.kind = [] := by unfold sof; rw [if_neg n2, if_neg (by omega)]
          exact ⟨n2, n8, Kp.refl _ _, [], [], hi, hs, by simp, Rd.nil _ _, rfl, fun _ => rfl, Rd.nil _ _, rfl, fun k hk => (is_none hk).elim⟩
      · rintro _ w1 ⟨rfl, e34⟩ _
        refine NilF.intro rfl (NilF.intro rfl (NilF.intro rfl (NilF.intro rfl (NilF.intro rfl (AlF.intro fun b6 w2 hb6e hb6 k2 _ => NilF.intro rfl (AlF.intro fun b7 w3 hb7e hb7 k3 _ => ?_))))))
        have hi : iof r.kind = 2 :: 3 :: [4, 5, 6, 7, 9] := by unfold iof; rw [if_neg (by omega), if_neg (by omega), if_pos e34]
        have hs : sof r.kind = [8] := by unfold sof; rw [if_neg (by omega), if_pos e34]
        exact ⟨by omega, by omega, (Kp.drew w1 1).trans0 (k2.trans0 k3), _, _, hi, hs, by simp, rd_cells (k3.blk hb6 id) rfl, rfl, (fun h0 => by cases h0), rd_cells hb7 rfl, rfl, fr_some (by rw [hb7e]; exact ((Kp.drew w1 1).trans0 k2).size)⟩
    · rintro ⟨⟨a, l, c⟩, ⟨a', l', c'⟩, u⟩ w1 ⟨n2, n8, k1, A, B, hA, hB, hA9, hr, hl, h0, hr', hl', hf'⟩ _
      dsimp only at hr hl h0 hr' hl' ⊢
      refine NilF.intro rfl (ahead_c (b := b) (o := 3) k1 hr (by simpa using hl) h0 (by omega) pv_one rfl fun a2 c2 w2 k2 k12 hr2 hn2 hf2 => ?_)
      exact ⟨n2, n8, k2, 3 :: A, B, hA, hB, by simp; omega, hr2, by simp; omega, fun h0 => absurd h0 hn2, hr'.kp0 k12, hl', hf'⟩
  · rintro ⟨⟨a, l, c⟩, ⟨a', l', c'⟩, u⟩ w1 ⟨n2, n8, k1, A, B, hA, hB, hA9, hr, hl, h0, hr', hl', hf'⟩ _
    dsimp only at hr hl h0 hr' hl' ⊢
    refine NilF.intro rfl (ahead_c (b := b) (o := 2) k1 hr (by simpa using hl) h0 (by omega) pv_one rfl fun a2 c2 w2 k2 k12 hr2 hn2 hf2 => ?_)
    have hl2 : l + 1 = (iof r.kind).length := by rw [hA]; simp; omega
    have hl3 : l' = (sof r.kind).length := by rw [hB]; exact hl'.symm
    rw [hl2, hl3]
    refine h a2 c2 a' c' w2 k2 ?_ ?_ (fun k hk => by have := hf2 k hk; have := k1.size; omega) hf'
    · rw [hA]; exact hr2
    · rw [hB]; exact hr'.kp0 k12
end Go.Proofs.Ytjhncijdkmbopaa
