/- The engine of these proofs, with no program in sight: a denotation 'den' of translated code as a predicate over typed values, and its soundness against the library's Code.wp. Conditions: none. -/
import Derived.WalkKit
import Derived.Deep.Quiet
import Derived.OrdersHeld
import Derived.WideLaws
import Derived.Laws.StructEq
import Derived.KernelRfl
import Derived.ChangeKeysEq
namespace Go.Proofs.YtkfdkcclojepnaaGreat
open Go Go.RowKit
abbrev Po := Ending → World → Prop
/-! ### Types of values, and their payloads -/
inductive STy where
  | int (k : IntKind) | bool | ptr | slice | str | any
def SPay : STy → Type
  | .int _ => Int
  | .bool => Bool
  | .ptr => Option Addr
  | .slice => Option Addr × Nat × Nat
  | .str => ByteArray
  | .any => Value
def smk : (s : STy) → SPay s → Value
  | .int k, x => .int k x
  | .bool, b => .bool b
  | .ptr, p => .pointer p
  | .slice, (a, l, c) => .slice a l c
  | .str, s => .string s
  | .any, v => v
def exS : STy → (Value → Prop) → Prop
  | .int k, K => ∃ x : Int, K (.int k x)
  | .bool, K => ∃ b : Bool, K (.bool b)
  | .ptr, K => ∃ p : Option Addr, K (.pointer p)
  | .slice, K => ∃ (a : Option Addr) (l c : Nat), K (.slice a l c)
  | .str, K => ∃ s : ByteArray, K (.string s)
  | .any, K => ∃ v : Value, K v
def exL : List STy → (List Value → Prop) → Prop
  | [], K => K []
  | s :: r, K => exS s fun v => exL r fun vs => K (v :: vs)
inductive Ty where
  | sc (s : STy) | agg (l : List STy) | arr (m : Nat)
def exT : Ty → (Value → Prop) → Prop
  | .sc s, K => exS s K
  | .agg l, K => exL l fun vs => K (.agg vs.toArray)
  | .arr m, K => ∃ vs : List Value, vs.length = m ∧ K (.agg vs.toArray)
def exTL : List Ty → (List Value → Prop) → Prop
  | [], K => K []
  | t :: r, K => exT t fun v => exTL r fun vs => K (v :: vs)
inductive RTy where
  | one (t : Ty) | tup (l : List Ty)
def exR : RTy → (Value → Prop) → Prop
  | .one t, K => exT t K
  | .tup l, K => exTL l fun vs => K (.tuple vs.toArray)
theorem exS_out {s : STy} {K : Value → Prop} (h : exS s K) : ∃ v, K v := by
  cases s <;> simp only [exS] at h
  case slice => obtain ⟨a, l, c, h⟩ := h; exact ⟨_, h⟩
  all_goals (obtain ⟨x, h⟩ := h; exact ⟨_, h⟩)
theorem exL_out : ∀ {l : List STy} {K : List Value → Prop}, exL l K → ∃ vs, vs.length = l.length ∧ K vs
  | [], _, h => ⟨[], rfl, h⟩
  | s :: r, K, h => by
    obtain ⟨v, h⟩ := exS_out h
    obtain ⟨vs, hl, h⟩ := exL_out h
    exact ⟨v :: vs, by simp [hl], h⟩
theorem exT_out {t : Ty} {K : Value → Prop} (h : exT t K) : ∃ v, K v := by
  cases t with
  | sc s => exact exS_out h
  | agg l => obtain ⟨vs, _, h⟩ := exL_out h; exact ⟨_, h⟩
  | arr m => obtain ⟨vs, _, h⟩ := h; exact ⟨_, h⟩
theorem exTL_out : ∀ {l : List Ty} {K : List Value → Prop}, exTL l K → ∃ vs, K vs
  | [], _, h => ⟨[], h⟩
  | s :: r, K, h => by
    obtain ⟨v, h⟩ := exT_out h
    obtain ⟨vs, h⟩ := exTL_out h
    exact ⟨v :: vs, h⟩
theorem exR_out {t : RTy} {K : Value → Prop} (h : exR t K) : ∃ v, K v := by
  cases t with
  | one s => exact exT_out h
  | tup l => obtain ⟨vs, h⟩ := exTL_out h; exact ⟨_, h⟩
def cellTys (P : Program) : Nat → TypeId → List STy
  | 0, _ => [.any]
  | d + 1, t =>
    match P.underlying t with
    | some (.int k) => [.int k]
    | some .bool => [.bool]
    | some (.pointer _) => [.ptr]
    | some (.slice _) => [.slice]
    | some .string => [.str]
    | some (.struct fs) => fs.toList.flatMap fun f => cellTys P d f.type
    | some (.array n e) => (List.replicate n (cellTys P d e)).flatten
    | _ => [.any]
def tyOf (P : Program) (t : TypeId) : Ty :=
  match P.underlying t with
  | some (.struct _) => .agg (cellTys P 12 t)
  | some (.array n _) => cond (Nat.ble 17 n) (.arr (P.cellsOf t)) (.agg (cellTys P 12 t))
  | _ => .sc ((cellTys P 12 t).headD .any)
def rtyOf (P : Program) (t : TypeId) : RTy :=
  match P.underlying t with
  | some (.tuple ts) => .tup (ts.toList.map (tyOf P))
  | _ => .one (tyOf P t)
/-! ### The environment of temporaries -/
abbrev Env := Nat → Value
def upd (E : Env) (d : Nat) (v : Value) : Env := fun t => cond (Nat.beq t d) v (E t)
def updo (E : Env) : Option Nat → Value → Env
  | none, _ => E
  | some d, v => upd E d v
def ev (E : Env) : Operand → Value
  | .tmp t => E t
  | .const v => v
  | .global g => .pointer (some ⟨g, 0, none⟩)
  | .func f => .func (.func f) #[] #[]
structure St (n : Nat) (a : Act) (E : Env) (D : List Deferred) : Prop where
  size : a.tmps.size = n
  at_ : ∀ t, a.tmps.getD t undef = E t
  defers : a.defers = D
theorem St.eval {n : Nat} {a : Act} {E : Env} {D : List Deferred} (h : St n a E D) : a.eval = ev E := by
  funext x
  cases x with
  | tmp t => exact h.at_ t
  | const v => rfl
  | global g => rfl
  | func f => rfl
def dstOk (n : Nat) : Option Nat → Bool
  | none => true
  | some d => Nat.blt d n
theorem St.put {n : Nat} {a : Act} {E : Env} {D : List Deferred} (h : St n a E D) {d : Option Nat} (hd : dstOk n d = true) (v : Value) : St n (a.put d v) (updo E d v) D := by
  cases d with
  | none => exact h
  | some d =>
    have hd' : d < n := by simpa [dstOk, Nat.blt_eq] using hd
    refine ⟨by simpa [Act.put] using h.size, fun t => ?_, h.defers⟩
    have hs : d < a.tmps.size := by rw [h.size]; exact hd'
    simp only [Act.put, updo, upd]
    by_cases ht : t = d
    · subst ht
      simp [hs]
    · have hb : Nat.beq t d = false := by
        rw [Bool.eq_false_iff]; intro hc; exact ht (Nat.eq_of_beq_eq_true hc)
      rw [hb, cond_false, ← h.at_ t]
      simp [Ne.symm ht]
/-! ### The forms of a formula -/
def AlF (w : World) (o : Obj) (K : Nat → World → Prop) : Prop := K w.heap.size (w.alloc o)
def StF (w : World) (a : Addr) (v : Value) (K : World → Prop) : Prop := ∃ u, w.cell? a = some u ∧ w.frozen? a = false ∧ K (w.setCell a v)
def AssertF (v : Value) (T : TypeId) (K1 : Value → Prop) (K0 : Prop) : Prop := (v = .nilIface ∧ K0) ∨ ∃ t u, v = .iface t u ∧ ((t = T ∧ K1 u) ∨ (t ≠ T ∧ K0))
def EqI (v : Value) (T : TypeId) (k : IntKind) (b : Int) (K : Bool → Prop) : Prop := (v = .nilIface ∧ K false) ∨ ∃ t u, v = .iface t u ∧ ((t ≠ T ∧ K false) ∨ (t = T ∧ ∃ c, u = .int k c ∧ K (c == b)))
def EqA (xs ys : List Value) (n : Nat) (K : Bool → Prop) : Prop := ∃ as bs : List UInt8, xs = as.map (fun x => .int .u8 (x.toNat : Int)) ∧ ys = bs.map (fun x => .int .u8 (x.toNat : Int)) ∧ as.length = n ∧ bs.length = n ∧ K (decide (as = bs))
def StL (w : World) (a : Addr) : Nat → List Value → (World → Prop) → Prop
  | _, [], K => K w
  | i, v :: vs, K => v.oneCell' = true ∧ StF w (a.add i) v fun w' => StL w' a (i + 1) vs K
def StAny (w : World) (a : Addr) (v : Value) (K : World → Prop) : Prop := match v with | .nilIface => StF w a .nilIface K | .iface t x => StF w a (.iface t x) K | _ => False
def NilF (p : Option Addr) (K : Addr → Prop) : Prop := match p with | some a => K a | none => False
def IdxF (base : Option Addr) (n : Int) (l : Nat) (K : Addr → Prop) : Prop := 0 ≤ n ∧ n < l ∧ ∃ a, base = some a ∧ K a
def BdF (n : Int) (l : Nat) (K : Prop) : Prop := 0 ≤ n ∧ n < l ∧ K
def NeZ (y : Int) (K : Prop) : Prop := y ≠ 0 ∧ K
def NnF (y : Int) (K : Prop) : Prop := 0 ≤ y ∧ K
def StrAt (s : ByteArray) (n : Int) (K : UInt8 → Prop) : Prop := ∃ b, (if 0 ≤ n then s[n.toNat]? else none) = some b ∧ K b
def IfNil (v : Value) (K : Bool → Prop) : Prop := (v = .nilIface ∧ K true) ∨ (∃ t x, v = .iface t x ∧ K false)
def scale (i : Nat) : Nat → Nat | 1 => i | s => i * s
def subA (a : Option Addr) (c lo s : Nat) : Option Addr := if c = lo then a else a.map (·.add (lo * s))
def subP (a : Addr) (c lo s : Nat) : Addr := if c = lo then a else a.add (lo * s)
def loOf : Option Int → Nat | none => 0 | some x => x.toNat
def hiOf (l : Nat) : Option Int → Nat | none => l | some x => x.toNat
def SlB (c l : Nat) (lo hi : Option Int) (K : Prop) : Prop :=
  (match hi with | none => True | some h => 0 ≤ h ∧ h ≤ c) ∧ (match lo with | none => True | some x => 0 ≤ x ∧ x ≤ hiOf l hi) ∧ K
def shlV (k : IntKind) (x y : Int) : Int := k.wrap (x * 2 ^ (min y.toNat k.bits))
def shrV (k : IntKind) (x y : Int) : Int := x.fdiv (2 ^ (min y.toNat k.bits))
def andV (k : IntKind) (x y : Int) : Int := k.wrap (BitVec.ofInt k.bits x &&& BitVec.ofInt k.bits y).toNat
def orV (k : IntKind) (x y : Int) : Int := k.wrap (BitVec.ofInt k.bits x ||| BitVec.ofInt k.bits y).toNat
def xorV (k : IntKind) (x y : Int) : Int := k.wrap (BitVec.ofInt k.bits x ^^^ BitVec.ofInt k.bits y).toNat
def RunF (P : Program) (e : Sem Value) (w : World) (K : Value → World → Prop) : Prop := ∃ v w', e.run P w = .ok v w' ∧ K v w'
def callable (P : Program) (f : FuncId) : Bool :=
  match P.funcs[f]? with
  | none => false
  | some fn => !(fn.name == "runtime.NumGoroutine") && fn.body.isSome
def GoC (P : Program) (f : FuncId) (args : Array Value) (w : World) (R : Po) : Prop :=
  callable P f = true ∧ Calls P f args w R
def CallF (P : Program) (f : FuncId) (args : Array Value) (w : World) (K : Value → World → Prop) (C : List PanicEntry → World → Prop) : Prop :=
  GoC P f args w fun e w' => match e with
    | .returned v => K v w'
    | .panicked ch => C ch w'
    | .outgrown => False
/-! ### Steps of the library's effect terms -/
def NcQ {α : Type} (P : Program) : Sem α → (α → Prop) → Prop
  | .pure a, K => K a
  | .program k, K => NcQ P (k P) K
  | .mark _ k, K => NcQ P k K
  | _, _ => False
theorem NcQ_run {α : Type} {P : Program} (e : Sem α) : ∀ {K : α → Prop}, NcQ P e K → ∃ a, K a ∧ ∀ w, e.run P w = .ok a w := by
  induction e with
  | pure a => intro K h; exact ⟨a, h, fun _ => rfl⟩
  | program k ih => intro K h; exact ih P h
  | mark m k ih => intro K h; exact ih h
  | _ => intro K h; exact h.elim
def Nc {α : Type} (P : Program) : Sem α → (α → World → Prop) → (Value → World → Prop) → World → Prop
  | .pure a, Q, _, w => Q a w
  | .load _ a k, Q, C, w => ∃ v, w.cell? a = some v ∧ Nc P (k v) Q C w
  | .store _ _ (.agg _) _, _, _, _ | .store _ _ (.tuple _) _, _, _, _ => False
  | .store _ a v k, Q, C, w => StF w a v fun w' => Nc P k Q C w'
  | .new o k, Q, C, w => AlF w o fun b w' => Nc P (k b) Q C w'
  | .shape r k, Q, C, w => Nc P (k (w.shape? r)) Q C w
  | .freeze a n k, Q, C, w => Nc P k Q C (w.freeze a n)
  | .frozen a k, Q, C, w => Nc P (k (w.frozen? a)) Q C w
  | .choose q k, Q, C, w => cond q.forced (Nc P (k 0) Q C w) (Nc P (k (q.cut (w.tape w.drawn q))) Q C w.drew)
  | .program k, Q, C, w => Nc P (k P) Q C w
  | .mark _ k, Q, C, w => Nc P k Q C w
  | .halt (.panic v), _, C, w => C v w
  | _, _, _, _ => False
def Got {α : Type} (Q : α → World → Prop) (C : Value → World → Prop) : Result α → Prop
  | .ok a w => Q a w
  | .halt (.panic v) w => C v w
  | _ => False
theorem Nc_run {α : Type} {P : Program} (e : Sem α) : ∀ {Q : α → World → Prop} {C : Value → World → Prop} {w : World}, Nc P e Q C w → Got Q C (e.run P w) := by
  induction e with
  | pure a => intro Q C w h; exact h
  | load m a k ih => intro Q C w h; obtain ⟨v, hv, h⟩ := h; simp only [Sem.run, hv]; exact ih v h
  | store m a v k ih =>
    intro Q C w h
    cases v <;> simp only [Nc] at h <;>
      first
        | exact h.elim
        | (obtain ⟨u, hu, hf, h⟩ := h
           simp only [Sem.run, hu, hf]
           exact ih h)
  | new o k ih => intro Q C w h; exact ih _ h
  | shape r k ih => intro Q C w h; exact ih _ h
  | freeze a n k ih => intro Q C w h; exact ih h
  | frozen a k ih => intro Q C w h; exact ih _ h
  | choose q k ih =>
    intro Q C w h
    simp only [Nc] at h
    simp only [Sem.run]
    cases hq : q.forced <;> simp only [hq, cond_true, cond_false] at h
    · simp only [Bool.false_eq_true, if_false]; exact ih _ h
    · simp only [if_true]; exact ih _ h
  | program k ih => intro Q C w h; exact ih _ h
  | mark m k ih => intro Q C w h; exact ih h
  | halt x => intro Q C w h; cases x <;> first | exact h | exact h.elim
  | getObj => intro Q C w h; exact h.elim
  | setObj => intro Q C w h; exact h.elim
  | sys => intro Q C w h; exact h.elim
end Go.Proofs.YtkfdkcclojepnaaGreat
