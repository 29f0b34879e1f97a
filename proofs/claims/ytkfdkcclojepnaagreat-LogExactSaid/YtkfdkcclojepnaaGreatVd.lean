/- The engine, second part: one operation, one region. Conditions: none. -/
import Derived.Test.YtkfdkcclojepnaaGreatVc
namespace Go.Proofs.YtkfdkcclojepnaaGreat
open Go Go.RowKit
section
variable (P : Program)
def isPure : Op → Bool
  | .move _ | .assign _ | .pick .. | .nilCheck _ | .binOp .. | .unOp .. | .fieldAddr .. | .field .. | .indexAddr .. | .index .. | .slice .. | .extract .. | .makeInterface .. | .makeFunc .. | .build .. | .typeAssert .. | .sliceToArrayPointer .. => true
  | .convert _ dst _ => match P.underlying dst with | some (.int _) => true | _ => false
  | .call { callee := .builtin b, .. } => match b with | .len | .cap | .min | .max => true | _ => false
  | _ => false
def nextV (K : Value → Prop) : Next → Prop
  | .value v => K v
  | _ => False
def pIndexAddr (d : Option TypeDesc) (x i : Value) (K : Value → Prop) : Prop :=
  match d, x, i with
  | some (.slice e), .slice base l _, .int _ n => cond (P.info? e).isSome (IdxF base n l fun a => K (.pointer (some (a.add (scale n.toNat (P.cellsOf e)))))) False
  | some (.array l e), .pointer (some a), .int _ n => cond (P.info? e).isSome (BdF n l (K (.pointer (some (a.add (scale n.toNat (P.cellsOf e))))))) False
  | _, _, _ => False
def oInt : Option Value → Option Int
  | some (.int _ n) => some n
  | _ => none
def oIsInt : Option Value → Bool
  | none => true
  | some (.int ..) => true
  | _ => false
def pSlice (d : Option TypeDesc) (x : Value) (lo hi : Option Value) (K : Value → Prop) : Prop :=
  cond (oIsInt lo && oIsInt hi)
    (match d, x with
     | some (.slice e), .slice a l c => cond (P.info? e).isSome (SlB c l (oInt lo) (oInt hi) (K (.slice (subA a c (loOf (oInt lo)) (P.cellsOf e)) (hiOf l (oInt hi) - loOf (oInt lo)) (c - loOf (oInt lo))))) False
     | some (.array n e), .pointer (some a) => cond (P.info? e).isSome (SlB n n (oInt lo) (oInt hi) (K (.slice (some (subP a n (loOf (oInt lo)) (P.cellsOf e))) (hiOf n (oInt hi) - loOf (oInt lo)) (n - loOf (oInt lo))))) False
     | some .string, .string s => SlB s.size s.size (oInt lo) (oInt hi) (K (.string (s.extract (loOf (oInt lo)) (hiOf s.size (oInt hi)))))
     | _, _ => False)
    False
def isNeq : BinOp → Bool → Bool
  | .neq, b => !b
  | _, b => b
def isEq : BinOp → Bool
  | .eql | .neq => true
  | _ => false
def partQ (t : TypeId) (cs : Array Value) (off : Nat) : Option Value :=
  match P.underlying t with
  | some (.struct _) | some (.array _ _) => cond (P.info? t).isSome (some (.agg (cs.extract off (off + P.cellsOf t)))) none
  | some _ => cs[off]?
  | none => none
def eqFQ (r : TypeId → Value → Value → Option Bool) (xs ys : Array Value) : List Field → Option Bool
  | [] => some true
  | f :: fs => cond (f.name == "_") none
      (match partQ P f.type xs f.offset, partQ P f.type ys f.offset with
       | some a, some b => (match r f.type a b, eqFQ r xs ys fs with | some p, some q => some (p && q) | _, _ => none)
       | _, _ => none)
def eqQ : Nat → TypeId → Value → Value → Option Bool
  | 0, _, _, _ => none
  | d + 1, t, x, y =>
    match P.underlying t, x, y with
    | some .bool, .bool a, .bool b => some (a == b)
    | some (.int _), .int k a, .int k' b => cond (decide (k = k')) (some (a == b)) none
    | some .string, .string a, .string b => some (a.toList == b.toList)
    | some (.struct fs), .agg xs, .agg ys => cond (P.stoodInHeld t) none (eqFQ P (eqQ d) xs ys fs.toList)
    | _, _, _ => none
def eqK (o : Option Bool) (K : Bool → Prop) : Prop := match o with | some b => K b | none => False
def SzF (n : Nat) (K : Prop) : Prop := n ≤ 9223372036854775807 ∧ K
def pBinV (E : Env) (o : Oper) (op : BinOp) (t : TypeId) (x y : Operand) (K : Value → Prop) : Prop :=
  match op, ev E x, ev E y, P.underlying t with
  | .quo, .int k a, .int k' b, _ => cond (decide (k = k')) (NeZ b (K (.int k (k.wrap (a.tdiv b))))) False
  | .rem, .int k a, .int k' b, _ => cond (decide (k = k')) (NeZ b (K (.int k (a.tmod b)))) False
  | .shl, .int k a, .int _ b, _ => NnF b (K (.int k (shlV k a b)))
  | .shr, .int k a, .int _ b, _ => NnF b (K (.int k (shrV k a b)))
  | .add, .string a, .string b, _ => SzF (a.size + b.size) (K (.string (a ++ b)))
  | op, .pointer p, .pointer none, some (.pointer _) => cond (isEq op) (K (.bool (isNeq op p.isNone))) False
  | op, .slice p _ _, .slice none _ _, some (.slice _) => cond (isEq op) (K (.bool (isNeq op p.isNone))) False
  | op, .agg xs, .agg ys, some (.struct _) => cond (isEq op && !(P.eqGuardType P.depth t)) (eqK (eqQ P 10000 t (.agg xs) (.agg ys)) fun b => K (.bool (isNeq op b))) False
  | op, .agg xs, .agg ys, some (.array n e) => cond (isEq op && !(P.eqGuardType P.depth t) && (P.info? e).isSome && Nat.beq (P.cellsOf e) 1) (match P.underlying e with | some (.int .u8) => EqA xs.toList ys.toList n fun b => K (.bool (isNeq op b)) | _ => False) False
  | _, _, _, _ => NcQ P (execOp (ev E) o) (nextV K)
def isNilC : Operand → Bool
  | .const .nilIface => true
  | _ => false
def pNil (E : Env) (op : BinOp) (t : TypeId) (x : Operand) (K : Value → Prop) : Prop :=
  match P.underlying t with
  | some (.interface _) => cond (isEq op) (IfNil (ev E x) fun b => K (.bool (isNeq op b))) False
  | _ => False
def pIfc (E : Env) (op : BinOp) (t : TypeId) (x : Operand) (T : TypeId) (k : IntKind) (b : Int) (K : Value → Prop) : Prop :=
  match P.underlying t with
  | some (.interface _) => cond (isEq op && (match P.underlying T with | some (.int _) => true | _ => false) && (match P.info? T with | some i => i.comparable | none => false)) (EqI (ev E x) T k b fun r => K (.bool (isNeq op r))) False
  | _ => False
def pBin (E : Env) (o : Oper) (op : BinOp) (t : TypeId) (x y : Operand) (K : Value → Prop) : Prop :=
  cond (isNilC y) (pNil P E op t x K) (match ev E y with
    | .iface T (.int k b) => pIfc P E op t x T k b K
    | _ => pBinV P E o op t x y K)
def dPure (E : Env) (o : Oper) (K : Value → Prop) : Prop :=
  match o.op with
  | .nilCheck x => match ev E x with
    | .pointer p => NilF p fun a => K (.pointer (some a))
    | _ => NcQ P (execOp (ev E) o) (nextV K)
  | .fieldAddr _ x _ => match ev E x with
    | .pointer p => NilF p fun a => NcQ P (execOp (fun _ => .pointer (some a)) o) (nextV K)
    | _ => NcQ P (execOp (ev E) o) (nextV K)
  | .indexAddr t x i => pIndexAddr P (P.underlying t) (ev E x) (ev E i) K
  | .slice t x lo hi none => pSlice P (P.underlying t) (ev E x) (lo.map (ev E)) (hi.map (ev E)) K
  | .index t x i => match P.underlying t, ev E x, ev E i with
    | some .string, .string s, .int _ n => StrAt s n fun b => K (.int .u8 b.toNat)
    | _, _, _ => NcQ P (execOp (ev E) o) (nextV K)
  | .binOp op t x y _ => pBin P E o op t x y K
  | .sliceToArrayPointer t x => match P.underlying t, ev E x with
    | some (.array n _), .slice a l _ => n ≤ l ∧ K (.pointer a)
    | _, _ => False
  | .typeAssert x _ asserted true => match P.underlying asserted with
    | some (.interface _) => NcQ P (execOp (ev E) o) (nextV K)
    | some _ => AssertF (ev E x) asserted (fun u => exT (tyOf P asserted) fun y => u = y ∧ K (.tuple #[y, .bool true])) (NcQ P (zeroValue asserted) fun z => K (.tuple #[z, .bool false]))
    | none => False
  | _ => NcQ P (execOp (ev E) o) (nextV K)
def cellsAre (w : World) (a : Addr) : Nat → List Value → Prop
  | _, [] => True
  | i, v :: vs => w.cell? (a.add i) = some v ∧ cellsAre w a (i + 1) vs
def dLoad (t : TypeId) (x : Value) (C : World → Prop) (K : Value → Prop) : Prop :=
  match x with
  | .pointer p => NilF p fun a => match tyOf P t with
    | .sc s => cond (P.underlying t).isSome (exS s fun v => (∀ w, C w → w.cell? a = some v) ∧ K v) False
    | .agg l => cond (l.length == P.cellsOf t && (P.info? t).isSome) (exL l fun vs => (∀ w, C w → cellsAre w a 0 vs) ∧ K (.agg vs.toArray)) False
    | .arr m => cond (m == P.cellsOf t && (P.info? t).isSome) (∃ vs : List Value, vs.length = m ∧ (∀ w, C w → cellsAre w a 0 vs) ∧ K (.agg vs.toArray)) False
  | _ => False
def wLoad (t : TypeId) (x : Value) (w : World) (K : Value → Prop) : Prop :=
  match x with
  | .pointer p => NilF p fun a => match tyOf P t with
    | .sc s => cond (P.underlying t).isSome (exS s fun v => w.cell? a = some v ∧ K v) False
    | .agg l => cond (l.length == P.cellsOf t && (P.info? t).isSome) (exL l fun vs => cellsAre w a 0 vs ∧ K (.agg vs.toArray)) False
    | .arr m => cond (m == P.cellsOf t && (P.info? t).isSome) (∃ vs : List Value, vs.length = m ∧ cellsAre w a 0 vs ∧ K (.agg vs.toArray)) False
  | _ => False
def calleeOf : Value → Option (FuncId × Array Value × Array Value)
  | .func (.func f) first captured => some (f, first, captured)
  | _ => none
def nextW (K : Value → World → Prop) : Next → World → Prop
  | .value v, w => K v w
  | .skip, w => K undef w
  | _, _ => False
def panicAs (C : List PanicEntry → World → Prop) (v : Value) (w : World) : Prop := C [{ v, recovered := false }] w
def runTyped (s : Sem Value) (t : TypeId) (w : World) (K : Value → World → Prop) : Prop :=
  RunF P s w fun v w' => exT (tyOf P t) fun u => v = u ∧ K u w'
def PanV (v : Value) (C : List PanicEntry → World → Prop) (w : World) : Prop := ∃ t x, v = .iface t x ∧ C [{ v := .iface t x, recovered := false }] w
def dEff (E : Env) (o : Oper) (w : World) (K : Value → World → Prop) (C : List PanicEntry → World → Prop) : Prop :=
  match o.op with
  | .call { callee := .value f, args, .. } => match calleeOf (ev E f) with
    | some (g, first, captured) => CallF P g (first ++ args.map (ev E) ++ captured) w (fun v w' => exR (rtyOf P o.type) fun u => v = u ∧ K u w') C
    | none => False
  | .call { callee := .builtin .append, args, argTypes } => runTyped P (Builtin.append_ argTypes o.type (args.map (ev E))) o.type w K
  | .call { callee := .builtin .copy, args, argTypes } => runTyped P (Builtin.copy_ argTypes o.type (args.map (ev E))) o.type w K
  | .panic x => PanV (ev E x) C w
  | .makeSlice t l c => runTyped P (Instr.makeSlice t (ev E l) (ev E c)) o.type w K
  | .convert src dst x => runTyped P (convert src dst (ev E x)) o.type w K
  | .store t x y => match tyOf P t with
    | .arr m => match ev E x, ev E y with
      | .pointer p, .agg vs => NilF p fun a => cond (m == P.cellsOf t && (P.info? t).isSome) (vs.toList.length = m ∧ StL w a 0 vs.toList fun w' => K undef w') False
      | _, _ => False
    | .sc .any => match ev E x with
      | .pointer p => NilF p fun a => cond (1 == P.cellsOf t && (P.info? t).isSome) (StAny w a (ev E y) fun w' => K undef w') False
      | _ => False
    | _ => Nc P (execOp (ev E) o) (nextW K) (panicAs C) w
  | _ => Nc P (execOp (ev E) o) (nextW K) (panicAs C) w
def isLoad : Op → Bool
  | .load .. => true
  | _ => false
def dOp (E : Env) (o : Oper) (w : World) (K : Value → World → Prop) (C : List PanicEntry → World → Prop) : Prop :=
  match o.op with
  | .load t x => wLoad P t (ev E x) w fun v => K v w
  | op => cond (isPure P op) (dPure P E o fun v => K v w) (dEff P E o w K C)
/-! ### Soundness of one operation -/
variable {P}
theorem execV {s : Sem Value} {v : Value} {w w' : World} (hr : s.run P w = .ok v w') : (do pure (Next.value (← s)) : Sem Next).run P w = .ok (.value v) w' := by
  simp only [Sem.run_bind, hr, Result.andThen_ok, Sem.run_pure]
theorem nextV_out {ρ : Operand → Value} {o : Oper} {K : Value → Prop} (h : NcQ P (execOp ρ o) (nextV K)) : ∃ v, K v ∧ ∀ w, (execOp ρ o).run P w = .ok (.value v) w := by
  obtain ⟨nx, hk, hr⟩ := NcQ_run _ h
  cases nx <;> first | exact ⟨_, hk, hr⟩ | exact hk.elim
theorem run_und {t : TypeId} {d : TypeDesc} (h : P.underlying t = some d) (w : World) : (underlying t).run P w = .ok d w := by
  simp [underlying, program, bind, Sem.bind, Sem.run, h, pure]
theorem run_sizeOf' {t : TypeId} (h : (P.info? t).isSome = true) (w : World) : (sizeOf t).run P w = .ok (P.cellsOf t) w := by
  obtain ⟨i, hi⟩ := Option.isSome_iff_exists.1 h
  simp [sizeOf, typeInfo, program, bind, Sem.bind, Sem.run, hi, pure, Program.cellsOf]
theorem scale_eq (i s : Nat) : scale i s = i * s := by
  unfold scale
  split <;> simp
theorem cond_false_out {b : Bool} {p : Prop} (h : cond b p False) : b = true ∧ p := by
  cases b with
  | false => exact h.elim
  | true => exact ⟨rfl, h⟩
theorem pIndexAddr_run {t : TypeId} {x i : Value} {K : Value → Prop} (h : pIndexAddr P (P.underlying t) x i K) : ∃ v, K v ∧ ∀ w, (Instr.indexAt t x i).run P w = .ok v w := by
  unfold pIndexAddr at h
  split at h
  · rename_i e base l c k n hd
    obtain ⟨hi, h0, h1, a, rfl, hk⟩ := cond_false_out h
    refine ⟨_, hk, fun w => ?_⟩
    simp only [Instr.indexAt, asIntOf, Sem.run_bind, Sem.run_pure, Result.andThen_ok, run_und hd]
    rw [if_pos ⟨h0, h1⟩]
    simp only [Sem.run_bind, Sem.run_pure, Result.andThen_ok, run_sizeOf' hi, scale_eq]
  · rename_i l e a k n hd
    obtain ⟨hi, h0, h1, hk⟩ := cond_false_out h
    refine ⟨_, hk, fun w => ?_⟩
    simp only [Instr.indexAt, asIntOf, Instr.sureAddr, Sem.run_bind, Sem.run_pure, Result.andThen_ok, run_und hd]
    rw [if_pos ⟨h0, h1⟩]
    simp only [Sem.run_bind, Sem.run_pure, Result.andThen_ok, run_sizeOf' hi, scale_eq]
  · exact h.elim
theorem oIsInt_out {x : Option Value} (h : oIsInt x = true) : x = none ∨ ∃ k n, x = some (.int k n) := by
  unfold oIsInt at h
  split at h
  · exact .inl rfl
  · rename_i k n; exact .inr ⟨k, n, rfl⟩
  · cases h
theorem run_sliceBound {k : IntKind} {n : Int} {y : Nat} {c : BoundsCode} (h0 : 0 ≤ n) (h1 : n ≤ y) (w : World) : (Instr.sliceBound (.int k n) y c).run P w = .ok n.toNat w := by
  simp only [Instr.sliceBound, asIntOf, Sem.run_bind, Sem.run_pure, Result.andThen_ok]
  rw [if_pos ⟨h0, h1⟩]
  rfl
theorem run_sliceBounds {b : Bool} {l c : Nat} {lo hi : Option Value} {K : Prop} (h1 : oIsInt lo = true) (h2 : oIsInt hi = true) (h : SlB c l (oInt lo) (oInt hi) K) (w : World) :
    (Instr.sliceBounds b l c lo hi none).run P w = .ok (loOf (oInt lo), hiOf l (oInt hi), c) w ∧ K := by
  obtain ⟨ha, hb, hk⟩ := h
  refine ⟨?_, hk⟩
  rcases oIsInt_out h1 with rfl | ⟨k, n, rfl⟩ <;> rcases oIsInt_out h2 with rfl | ⟨k', m, rfl⟩ <;> simp only [oInt, hiOf, loOf] at ha hb ⊢ <;>
    simp only [Instr.sliceBounds, Sem.run_bind, Sem.run_pure, Result.andThen_ok, Option.isSome_none, Bool.false_eq_true, if_false]
  · rw [run_sliceBound ha.1 (by omega)]; rfl
  · rw [run_sliceBound hb.1 (by omega)]; rfl
  · rw [run_sliceBound ha.1 (by omega)]
    simp only [Result.andThen_ok]
    rw [run_sliceBound hb.1 (by omega)]; rfl
theorem pSlice_run {t : TypeId} {x : Value} {lo hi : Option Value} {K : Value → Prop} (h : pSlice P (P.underlying t) x lo hi K) : ∃ v, K v ∧ ∀ w, (Instr.sliceAt t x lo hi none).run P w = .ok v w := by
  unfold pSlice at h
  have hc := (cond_false_out h).1
  replace h := (cond_false_out h).2
  rw [Bool.and_eq_true] at hc
  have c1 := hc.1
  have c2 := hc.2
  clear hc
  split at h
  · rename_i e a l c hd
    obtain ⟨hi', h⟩ := cond_false_out h
    refine ⟨_, h.2.2, fun w => ?_⟩
    simp only [Instr.sliceAt, Instr.slice, Sem.run_bind, Sem.run_pure, Result.andThen_ok, run_und hd, (run_sliceBounds c1 c2 h w).1, run_sizeOf' hi', subA]
  · rename_i n e a hd
    obtain ⟨hi', h⟩ := cond_false_out h
    refine ⟨_, h.2.2, fun w => ?_⟩
    simp only [Instr.sliceAt, Instr.sureAddr, Sem.run_bind, Sem.run_pure, Result.andThen_ok, run_und hd, (run_sliceBounds c1 c2 h w).1, run_sizeOf' hi', subP]
  · rename_i s hd
    refine ⟨_, h.2.2, fun w => ?_⟩
    simp only [Instr.sliceAt, Instr.slice, Sem.run_bind, Sem.run_pure, Result.andThen_ok, run_und hd, (run_sliceBounds c1 c2 h w).1, Option.isSome_none, Bool.false_eq_true, if_false]
  · exact h.elim
theorem run_eqGuard_not {op : BinOp} (h : isEq op = false) (t : TypeId) (x y : Operand) (a b : Value) (w : World) : (eqGuard op t x y a b).run P w = .ok () w := by
  cases op <;> first | (simp [isEq] at h; done) | rfl
theorem run_binOp {o : Oper} {op : BinOp} {t ty : TypeId} {x y : Operand} (ho : o.op = .binOp op t x y ty) {ρ : Operand → Value} {v : Value} {w : World}
    (hg : (eqGuard op t x y (ρ x) (ρ y)).run P w = .ok () w) (hr : (binOp op t (ρ x) (ρ y)).run P w = .ok v w) : (execOp ρ o).run P w = .ok (.value v) w := by
  unfold execOp
  simp only [ho]
  exact execV (by simp only [Sem.run_bind, hg, Result.andThen_ok, hr])
theorem equalIn_ptr {t e : TypeId} (hd : P.underlying t = some (.pointer e)) (d : Nat) (p : Option Addr) (w : World) : (Op.equalIn (d + 1) t (.pointer p) (.pointer none)).run P w = .ok p.isNone w := by
  cases p <;> simp only [Op.equalIn, Sem.run_bind, run_und hd, Result.andThen_ok, Sem.run_pure, Option.isNone]
theorem equalIn_slice {t e : TypeId} (hd : P.underlying t = some (.slice e)) (d : Nat) (p : Option Addr) (l c l' c' : Nat) (w : World) : (Op.equalIn (d + 1) t (.slice p l c) (.slice none l' c')).run P w = .ok p.isNone w := by
  cases p <;> simp only [Op.equalIn, Sem.run_bind, run_und hd, Result.andThen_ok, Sem.run_pure, Option.isNone]
theorem equalIn_nil {t : TypeId} {ms : Array (String × TypeId)} (hd : P.underlying t = some (.interface ms)) (d : Nat) (w : World) : (Op.equalIn (d + 1) t .nilIface .nilIface).run P w = .ok true w := by
  simp only [Op.equalIn, Sem.run_bind, run_und hd, Result.andThen_ok, Sem.run_pure]
theorem equalIn_held {t : TypeId} {ms : Array (String × TypeId)} (hd : P.underlying t = some (.interface ms)) (d : Nat) (u : TypeId) (x : Value) (w : World) : (Op.equalIn (d + 1) t (.iface u x) .nilIface).run P w = .ok false w := by
  simp only [Op.equalIn, Sem.run_bind, run_und hd, Result.andThen_ok, Sem.run_pure]
theorem run_equal_ptr {t e : TypeId} (hd : P.underlying t = some (.pointer e)) (p : Option Addr) (w : World) : (Op.equal t (.pointer p) (.pointer none)).run P w = .ok p.isNone w := equalIn_ptr hd 9999 p w
theorem run_equal_slice {t e : TypeId} (hd : P.underlying t = some (.slice e)) (p : Option Addr) (l c l' c' : Nat) (w : World) : (Op.equal t (.slice p l c) (.slice none l' c')).run P w = .ok p.isNone w := equalIn_slice hd 9999 p l c l' c' w
theorem run_equal_nil {t : TypeId} {ms : Array (String × TypeId)} (hd : P.underlying t = some (.interface ms)) (w : World) : (Op.equal t .nilIface .nilIface).run P w = .ok true w := equalIn_nil hd 9999 w
theorem run_equal_held {t : TypeId} {ms : Array (String × TypeId)} (hd : P.underlying t = some (.interface ms)) (u : TypeId) (x : Value) (w : World) : (Op.equal t (.iface u x) .nilIface).run P w = .ok false w := equalIn_held hd 9999 u x w
theorem isNilC_out {y : Operand} (h : isNilC y = true) : y = .const .nilIface := by
  unfold isNilC at h
  split at h
  · rfl
  · cases h
theorem pNil_run {E : Env} {o : Oper} {op : BinOp} {t ty : TypeId} {x : Operand} {K : Value → Prop} (ho : o.op = .binOp op t x (.const .nilIface) ty) (h : pNil P E op t x K) :
    ∃ v, K v ∧ ∀ w, (execOp (ev E) o).run P w = .ok (.value v) w := by
  unfold pNil at h
  split at h
  · rename_i ms hd
    have hq := (cond_false_out h).1
    rcases (cond_false_out h).2 with ⟨hv, hk⟩ | ⟨u, z, hv, hk⟩
    · refine ⟨_, hk, fun w => run_binOp ho ?_ ?_⟩
      · rw [hv]; cases op <;> first | rfl | (simp [isEq] at hq; done) | (cases x <;> rfl)
      · rw [hv]
        cases op <;> first
          | (simp [isEq] at hq; done)
          | simp only [ev, binOp, Sem.run_bind, run_equal_nil hd, Result.andThen_ok, Sem.run_pure, isNeq]
    · refine ⟨_, hk, fun w => run_binOp ho ?_ ?_⟩
      · rw [hv]; cases op <;> first | rfl | (simp [isEq] at hq; done)
      · rw [hv]
        cases op <;> first
          | (simp [isEq] at hq; done)
          | simp only [ev, binOp, Sem.run_bind, run_equal_held hd, Result.andThen_ok, Sem.run_pure, isNeq]
  · exact h.elim
theorem eq_ptr {t e : TypeId} (hd : P.underlying t = some (.pointer e)) {op : BinOp} (hq : isEq op = true) (x y : Operand) (p : Option Addr) (w : World) :
    (eqGuard op t x y (.pointer p) (.pointer none)).run P w = .ok () w ∧ (binOp op t (.pointer p) (.pointer none)).run P w = .ok (.bool (isNeq op p.isNone)) w := by
  cases op <;> first
    | (simp [isEq] at hq; done)
    | exact ⟨rfl, by simp only [binOp, Sem.run_bind, run_equal_ptr hd, Result.andThen_ok, Sem.run_pure, isNeq]⟩
theorem eq_slice {t e : TypeId} (hd : P.underlying t = some (.slice e)) {op : BinOp} (hq : isEq op = true) (x y : Operand) (p : Option Addr) (l c l' c' : Nat) (w : World) :
    (eqGuard op t x y (.slice p l c) (.slice none l' c')).run P w = .ok () w ∧ (binOp op t (.slice p l c) (.slice none l' c')).run P w = .ok (.bool (isNeq op p.isNone)) w := by
  cases op <;> first
    | (simp [isEq] at hq; done)
    | exact ⟨rfl, by simp only [binOp, Sem.run_bind, run_equal_slice hd, Result.andThen_ok, Sem.run_pure, isNeq]⟩
theorem run_part {t : TypeId} {cs : Array Value} {off : Nat} {v : Value} (h : partQ P t cs off = some v) (w : World) : (part t cs off).run P w = .ok v w := by
  unfold partQ at h
  split at h
  · rename_i d hd
    cases hi : (P.info? t).isSome <;> rw [hi] at h
    · cases h
    · simp only [cond_true, Option.some.injEq] at h
      simp only [part, isAgg, Sem.run_bind, run_und hd, Result.andThen_ok, Sem.run_pure, if_true, run_sizeOf' hi, h]
  · rename_i n e hd
    cases hi : (P.info? t).isSome <;> rw [hi] at h
    · cases h
    · simp only [cond_true, Option.some.injEq] at h
      simp only [part, isAgg, Sem.run_bind, run_und hd, Result.andThen_ok, Sem.run_pure, if_true, run_sizeOf' hi, h]
  · rename_i d hn1 hn2 hd
    have ha : (isAgg t).run P w = .ok false w := by
      simp only [isAgg, Sem.run_bind, run_und hd, Result.andThen_ok]
      cases d <;> first | rfl | exact (hn1 _ hd).elim | exact (hn2 _ _ hd).elim
    simp only [part, Sem.run_bind, ha, Result.andThen_ok, Bool.false_eq_true, if_false, h, Sem.run_pure]
  · cases h
theorem run_eqQ : ∀ (d : Nat) (t : TypeId) (x y : Value) (b : Bool) (w : World), eqQ P d t x y = some b → (Op.equalIn d t x y).run P w = .ok b w
  | 0, _, _, _, _, _, h => by cases h
  | d + 1, t, x, y, b, w, h => by
    unfold eqQ at h
    split at h
    · rename_i a a' hd
      cases h
      exact run_equalIn_bool w d t a a' hd
    · rename_i k0 k a k' a' hd
      by_cases hk : k = k'
      · subst hk
        simp only [decide_true, cond_true, Option.some.injEq] at h
        subst h
        exact run_equalIn_int w d t k _ a a' hd
      · simp only [hk, decide_false, cond_false] at h
        cases h
    · rename_i a a' hd
      cases h
      exact run_equalIn_string w d t a a' hd
    · rename_i fs xs ys hd
      cases hp : P.stoodInHeld t <;> rw [hp] at h
      · simp only [cond_false] at h
        have hf : P.fieldsOf t = fs := by simp [Program.fieldsOf, hd]
        rw [run_equalIn_struct w d t xs ys (by rw [hf]; exact hd) hp, hf]
        have go : ∀ (l : List Field) (b : Bool), eqFQ P (eqQ P d) xs ys l = some b → (Op.eqFields d xs ys l).run P w = .ok b w := by
          intro l
          induction l with
          | nil => intro b hb; cases hb; rfl
          | cons f l ih =>
            intro b hb
            unfold eqFQ at hb
            cases hn : (f.name == "_") <;> rw [hn] at hb
            · simp only [cond_false] at hb
              split at hb
              · rename_i u v hu hv
                split at hb
                · rename_i p q hp1 hq1
                  cases hb
                  have h1 := run_eqQ d f.type u v p w hp1
                  have h2 := ih q hq1
                  have hne : f.name ≠ "_" := by
                    intro hh
                    rw [hh] at hn
                    exact absurd hn (by decide)
                  simp only [Op.eqFields, hne, ne_eq, not_false_eq_true, if_true, Sem.run_bind, run_part hu, run_part hv, h1, Result.andThen_ok]
                  cases p
                  · simp [Sem.run_pure]
                  · simpa using h2
                · cases hb
              · cases hb
            · cases hb
        exact go _ _ h
      · cases h
    · cases h
theorem eq_agg {t : TypeId} {op : BinOp} (hq : isEq op = true) (hg : P.eqGuardType P.depth t = false) {xs ys : Array Value} {b : Bool} (hb : eqQ P 10000 t (.agg xs) (.agg ys) = some b) (x y : Operand) (w : World) :
    (eqGuard op t x y (.agg xs) (.agg ys)).run P w = .ok () w ∧ (binOp op t (.agg xs) (.agg ys)).run P w = .ok (.bool (isNeq op b)) w := by
  refine ⟨run_eqGuard_agg w op t x y xs ys hg, ?_⟩
  cases op <;> first
    | (simp [isEq] at hq; done)
    | (rw [run_eql_struct, run_eqQ 10000 t _ _ b w hb]; rfl)
    | (rw [run_neq_struct, run_eqQ 10000 t _ _ b w hb]; rfl)
def eqL : List UInt8 → List UInt8 → Bool
  | [], [] => true
  | a :: as, b :: bs => ((a.toNat : Int) == (b.toNat : Int)) && eqL as bs
  | _, _ => false
theorem eqL_iff : ∀ as bs : List UInt8, eqL as bs = decide (as = bs)
  | [], [] => rfl
  | [], _ :: _ => rfl
  | _ :: _, [] => rfl
  | a :: as, b :: bs => by
    rw [eqL, eqL_iff as bs]
    by_cases h : a = b
    · subst h
      simp
    · have : ((a.toNat : Int) == (b.toNat : Int)) = false := by
        rw [beq_eq_false_iff_ne]
        intro hh
        exact h (UInt8.toNat_inj.1 (by omega))
      rw [this]
      simp [h]
theorem run_eqItems {e : TypeId} {ku : IntKind} (hu : P.underlying e = some (.int ku)) (d : Nat) (xs ys : Array Value) (w : World) : ∀ (as bs : List UInt8) (i : Nat), as.length = bs.length →
    (∀ j, j < as.length → xs[i + j]? = (as[j]?).map fun x => .int .u8 (x.toNat : Int)) → (∀ j, j < bs.length → ys[i + j]? = (bs[j]?).map fun x => .int .u8 (x.toNat : Int)) →
    (Op.eqItems (d + 1) e 1 xs ys (List.range' i as.length)).run P w = .ok (eqL as bs) w
  | [], [], i, _, _, _ => rfl
  | [], _ :: _, _, h, _, _ => by simp at h
  | _ :: _, [], _, h, _, _ => by simp at h
  | a :: as, b :: bs, i, h, hx, hy => by
    have h0 := hx 0 (by simp)
    have h1 := hy 0 (by simp)
    simp only [Nat.add_zero, List.getElem?_cons_zero, Option.map_some] at h0 h1
    have ih := run_eqItems hu d xs ys w as bs (i + 1) (by simpa using h) (fun j hj => by
      have := hx (j + 1) (by simpa using hj)
      rw [show i + (j + 1) = i + 1 + j by omega] at this
      simpa using this) (fun j hj => by
      have := hy (j + 1) (by simpa using hj)
      rw [show i + (j + 1) = i + 1 + j by omega] at this
      simpa using this)
    have pa : (part e xs (i * 1)).run P w = .ok (.int .u8 (a.toNat : Int)) w := run_part (by unfold partQ; rw [hu, Nat.mul_one]; exact h0) w
    have pb : (part e ys (i * 1)).run P w = .ok (.int .u8 (b.toNat : Int)) w := run_part (by unfold partQ; rw [hu, Nat.mul_one]; exact h1) w
    have pe := run_equalIn_int w d e .u8 ku (a.toNat : Int) (b.toNat : Int) hu
    simp only [List.length_cons, List.range'_succ, Op.eqItems, Sem.run_bind, pa, pb, pe, Result.andThen_ok, eqL]
    cases ((a.toNat : Int) == (b.toNat : Int))
    · rfl
    · simpa using ih
theorem eq_arr {t e : TypeId} {n : Nat} {ku : IntKind} {op : BinOp} (hd : P.underlying t = some (.array n e)) (hi : (P.info? e).isSome = true) (h1 : P.cellsOf e = 1) (hu : P.underlying e = some (.int ku)) (hq : isEq op = true) (hg : P.eqGuardType P.depth t = false) {xs ys : Array Value} {as bs : List UInt8}
    (hx : xs.toList = as.map fun x => .int .u8 (x.toNat : Int)) (hy : ys.toList = bs.map fun x => .int .u8 (x.toNat : Int)) (ha : as.length = n) (hb : bs.length = n) (x y : Operand) (w : World) :
    (eqGuard op t x y (.agg xs) (.agg ys)).run P w = .ok () w ∧ (binOp op t (.agg xs) (.agg ys)).run P w = .ok (.bool (isNeq op (decide (as = bs)))) w := by
  obtain ⟨i, hi⟩ := Option.isSome_iff_exists.1 hi
  have hr : (Op.equalIn 10000 t (.agg xs) (.agg ys)).run P w = .ok (decide (as = bs)) w := by
    rw [run_equalIn_array w 9999 xs ys hd hi, h1, List.range_eq_range', ← ha, run_eqItems hu 9998 xs ys w as bs 0 (by omega), eqL_iff]
    · intro j hj
      rw [Nat.zero_add, ← Array.getElem?_toList, hx, List.getElem?_map]
    · intro j hj
      rw [Nat.zero_add, ← Array.getElem?_toList, hy, List.getElem?_map]
  refine ⟨run_eqGuard_agg w op t x y xs ys hg, ?_⟩
  cases op <;> first
    | (simp [isEq] at hq; done)
    | (rw [run_eql_struct, hr]; rfl)
    | (rw [run_neq_struct, hr]; rfl)
theorem eqIn_ifc {t T : TypeId} {ms : Array (String × TypeId)} {kt : IntKind} {i : TypeInfo} (hd : P.underlying t = some (.interface ms)) (hT : P.underlying T = some (.int kt)) (hi : P.info? T = some i) (hc : i.comparable = true) {v : Value} {k : IntKind} {b : Int} {K : Bool → Prop} (h : EqI v T k b K) (d : Nat) :
    ∃ r, K r ∧ (v = .nilIface ∨ ∃ t' u, v = .iface t' u) ∧ ∀ w, (Op.equalIn (d + 2) t v (.iface T (.int k b))).run P w = .ok r w := by
  rcases h with ⟨rfl, h⟩ | ⟨t', u, rfl, ⟨hne, h⟩ | ⟨rfl, c, rfl, h⟩⟩
  · refine ⟨_, h, .inl rfl, fun w => ?_⟩
    rw [Op.equalIn]
    simp only [Sem.run_bind, run_und hd, Result.andThen_ok, Sem.run_pure]
  · refine ⟨_, h, .inr ⟨_, _, rfl⟩, fun w => ?_⟩
    rw [Op.equalIn]
    simp only [Sem.run_bind, run_und hd, Result.andThen_ok, ne_eq, hne, not_false_eq_true, if_true, Sem.run_pure]
  · refine ⟨_, h, .inr ⟨_, _, rfl⟩, fun w => ?_⟩
    have hti : (typeInfo t').run P w = .ok i w := by simp [typeInfo, Sem.run_bind, hi]
    have he : (Op.equalIn (d + 1) t' (.int k c) (.int k b)).run P w = .ok (c == b) w := run_equalIn_int w d t' k kt c b hT
    rw [Op.equalIn]
    simp only [Sem.run_bind, run_und hd, Result.andThen_ok, ne_eq, not_true_eq_false, if_false, hti, hc, Bool.not_true, Bool.false_eq_true, he]
theorem eq_ifc {t T : TypeId} {ms : Array (String × TypeId)} {kt : IntKind} {i : TypeInfo} {op : BinOp} (hq : isEq op = true) (hd : P.underlying t = some (.interface ms)) (hT : P.underlying T = some (.int kt)) (hi : P.info? T = some i) (hc : i.comparable = true) {v : Value} {k : IntKind} {b : Int} {K : Bool → Prop} (h : EqI v T k b K) (x y : Operand) :
    ∃ r, K r ∧ ∀ w, (eqGuard op t x y v (.iface T (.int k b))).run P w = .ok () w ∧ (binOp op t v (.iface T (.int k b))).run P w = .ok (.bool (isNeq op r)) w := by
  obtain ⟨r, hk, hv, hr⟩ := eqIn_ifc hd hT hi hc h 9998
  refine ⟨r, hk, fun w => ?_⟩
  have he : (Op.equal t v (.iface T (.int k b))).run P w = .ok r w := hr w
  rcases hv with rfl | ⟨t', u, rfl⟩
  · cases op <;> first
      | (simp [isEq] at hq; done)
      | exact ⟨rfl, by simp only [binOp, Sem.run_bind, he, Result.andThen_ok, Sem.run_pure, isNeq]⟩
  · cases op <;> first
      | (simp [isEq] at hq; done)
      | exact ⟨rfl, by simp only [binOp, Sem.run_bind, he, Result.andThen_ok, Sem.run_pure, isNeq]⟩
theorem pBinV_run {E : Env} {o : Oper} {op : BinOp} {t ty : TypeId} {x y : Operand} {K : Value → Prop} (ho : o.op = .binOp op t x y ty) (h : pBinV P E o op t x y K) :
    ∃ v, K v ∧ ∀ w, (execOp (ev E) o).run P w = .ok (.value v) w := by
  unfold pBinV at h
  split at h
  · rename_i k a k' b e1 e2
    have hk := of_decide_eq_true (cond_false_out h).1
    obtain ⟨hb, h⟩ := (cond_false_out h).2
    refine ⟨_, h, fun w => run_binOp ho (run_eqGuard_not rfl _ _ _ _ _ _) ?_⟩
    rw [e1, e2]
    simp only [binOp, hk, ne_eq, not_true_eq_false, if_false, Op.intDiv, hb, Sem.run_pure]
  · rename_i k a k' b e1 e2
    have hk := of_decide_eq_true (cond_false_out h).1
    obtain ⟨hb, h⟩ := (cond_false_out h).2
    refine ⟨_, h, fun w => run_binOp ho (run_eqGuard_not rfl _ _ _ _ _ _) ?_⟩
    rw [e1, e2]
    simp only [binOp, hk, ne_eq, not_true_eq_false, if_false, Op.intDiv, hb, Sem.run_pure]
  · rename_i k a k' b e1 e2
    obtain ⟨hb, h⟩ := h
    refine ⟨_, h, fun w => run_binOp ho (run_eqGuard_not rfl _ _ _ _ _ _) ?_⟩
    rw [e1, e2]
    have hn : ¬ b < 0 := by omega
    simp only [binOp, Op.shift, hn, if_false, Sem.run_pure, shlV]
  · rename_i k a k' b e1 e2
    obtain ⟨hb, h⟩ := h
    refine ⟨_, h, fun w => run_binOp ho (run_eqGuard_not rfl _ _ _ _ _ _) ?_⟩
    rw [e1, e2]
    have hn : ¬ b < 0 := by omega
    simp only [binOp, Op.shift, hn, if_false, Sem.run_pure, shrV]
  · rename_i a b e1 e2
    obtain ⟨hb, h⟩ := h
    refine ⟨_, h, fun w => run_binOp ho (run_eqGuard_not rfl _ _ _ _ _ _) ?_⟩
    rw [e1, e2]
    have hn : ¬ (((a.size + b.size : Nat) : Int) > IntKind.i64.max) := by
      have : IntKind.i64.max = 9223372036854775807 := by decide
      omega
    simp only [binOp, Op.stringOp, hn, if_false, Sem.run_pure]
  · rename_i p e e1 e2 hd
    have hq := (cond_false_out h).1
    have hk := (cond_false_out h).2
    refine ⟨_, hk, fun w => run_binOp ho ?_ ?_⟩
    · rw [e1, e2]; exact (eq_ptr hd hq _ _ _ _).1
    · rw [e1, e2]; exact (eq_ptr hd hq x y _ _).2
  · rename_i p l c l' c' e e1 e2 hd
    have hq := (cond_false_out h).1
    have hk := (cond_false_out h).2
    refine ⟨_, hk, fun w => run_binOp ho ?_ ?_⟩
    · rw [e1, e2]; exact (eq_slice hd hq _ _ _ _ _ _ _ _).1
    · rw [e1, e2]; exact (eq_slice hd hq x y _ _ _ _ _ _).2
  · rename_i xs ys fs e1 e2 hd
    obtain ⟨hc, hk⟩ := cond_false_out h
    rw [Bool.and_eq_true, Bool.not_eq_true'] at hc
    unfold eqK at hk
    split at hk
    · rename_i b hb
      refine ⟨_, hk, fun w => run_binOp ho ?_ ?_⟩
      · rw [e1, e2]; exact (eq_agg hc.1 hc.2 hb _ _ _).1
      · rw [e1, e2]; exact (eq_agg hc.1 hc.2 hb x y _).2
    · exact hk.elim
  · rename_i xs ys n e e1 e2 hd
    obtain ⟨hc, hk⟩ := cond_false_out h
    simp only [Bool.and_eq_true, Bool.not_eq_true'] at hc
    split at hk
    · rename_i hu
      obtain ⟨as, bs, h1, h2, h3, h4, hk⟩ := hk
      refine ⟨_, hk, fun w => run_binOp ho ?_ ?_⟩
      · rw [e1, e2]; exact (eq_arr hd hc.1.2 (Nat.eq_of_beq_eq_true hc.2) hu hc.1.1.1 hc.1.1.2 h1 h2 h3 h4 _ _ _).1
      · rw [e1, e2]; exact (eq_arr hd hc.1.2 (Nat.eq_of_beq_eq_true hc.2) hu hc.1.1.1 hc.1.1.2 h1 h2 h3 h4 x y _).2
    · exact hk.elim
  · exact nextV_out h
theorem pIfc_run {E : Env} {o : Oper} {op : BinOp} {t ty T : TypeId} {x y : Operand} {k : IntKind} {b : Int} {K : Value → Prop} (ho : o.op = .binOp op t x y ty) (e2 : ev E y = .iface T (.int k b)) (h : pIfc P E op t x T k b K) :
    ∃ v, K v ∧ ∀ w, (execOp (ev E) o).run P w = .ok (.value v) w := by
  unfold pIfc at h
  split at h
  · rename_i ms hd
    obtain ⟨hc, hk⟩ := cond_false_out h
    simp only [Bool.and_eq_true] at hc
    obtain ⟨⟨hq, hT⟩, hi⟩ := hc
    split at hT
    · rename_i kt hT'
      split at hi
      · rename_i i hi'
        obtain ⟨r, hk, hr⟩ := eq_ifc hq hd hT' hi' hi hk x y
        refine ⟨_, hk, fun w => run_binOp ho ?_ ?_⟩
        · rw [e2]; exact (hr w).1
        · rw [e2]; exact (hr w).2
      · cases hi
    · cases hT
  · exact h.elim
theorem dPure_run {E : Env} {o : Oper} {K : Value → Prop} (h : dPure P E o K) : ∃ v, K v ∧ ∀ w, (execOp (ev E) o).run P w = .ok (.value v) w := by
  unfold dPure at h
  split at h
  · rename_i x ho
    split at h
    · rename_i p hx
      cases p with
      | none => exact h.elim
      | some a =>
        refine ⟨_, h, fun w => ?_⟩
        unfold execOp
        simp only [ho, hx, Sem.run_pure]
    · exact nextV_out h
  · rename_i t x f ho
    split at h
    · rename_i p hx
      cases p with
      | none => exact h.elim
      | some a =>
        obtain ⟨v, hk, hr⟩ := nextV_out (show NcQ P (execOp (fun _ => .pointer (some a)) o) (nextV K) from h)
        refine ⟨v, hk, fun w => ?_⟩
        rw [← hr w]
        unfold execOp
        simp only [ho, hx]
    · exact nextV_out h
  · rename_i t x i ho
    obtain ⟨v, hk, hr⟩ := pIndexAddr_run h
    refine ⟨v, hk, fun w => ?_⟩
    unfold execOp
    simp only [ho]
    exact execV (hr w)
  · rename_i t x lo hi ho
    obtain ⟨v, hk, hr⟩ := pSlice_run h
    refine ⟨v, hk, fun w => ?_⟩
    unfold execOp
    simp only [ho]
    exact execV (hr w)
  · rename_i t x i ho
    split at h
    · rename_i s k n hd hx hi
      obtain ⟨b, hb, hk⟩ := h
      refine ⟨_, hk, fun w => ?_⟩
      unfold execOp
      simp only [ho]
      refine execV ?_
      rw [hx, hi]
      simp only [Instr.index, asIntOf, Sem.run_bind, Sem.run_pure, Result.andThen_ok, run_und hd, hb]
    · exact nextV_out h
  · rename_i op t x y ty ho
    unfold pBin at h
    cases hn : isNilC y <;> rw [hn] at h
    · simp only [cond_false] at h
      split at h
      · rename_i T k b e2
        exact pIfc_run ho e2 h
      · exact pBinV_run ho h
    · obtain rfl := isNilC_out hn
      exact pNil_run ho h
  · rename_i t x ho
    split at h
    · rename_i n e a l c hd hx
      refine ⟨_, h.2, fun w => ?_⟩
      unfold execOp
      simp only [ho]
      refine execV ?_
      have hn : ¬ l < n := by omega
      simp only [hx, Instr.arrayAt, Sem.run_bind, run_und hd, Result.andThen_ok, hn, if_false, Sem.run_pure]
    · exact h.elim
  · rename_i x xt asserted ho
    split at h
    · exact nextV_out h
    · rename_i d hnot hd
      rcases h with ⟨hv, h⟩ | ⟨t, u, hv, ⟨rfl, h⟩ | ⟨hne, h⟩⟩
      · obtain ⟨z, hz, hk⟩ := NcQ_run _ h
        refine ⟨_, hz, fun w => ?_⟩
        unfold execOp
        simp only [ho]
        refine execV ?_
        rw [hv]
        cases d <;> first
          | exact absurd rfl (hnot _)
          | simp only [Instr.typeAssert, Sem.run_bind, run_und hd, Result.andThen_ok, if_true, hk w, Sem.run_pure]
      · obtain ⟨y, rfl, hk⟩ := exT_out h
        refine ⟨_, hk, fun w => ?_⟩
        unfold execOp
        simp only [ho]
        refine execV ?_
        rw [hv]
        cases d <;> first
          | exact absurd rfl (hnot _)
          | simp only [Instr.typeAssert, Sem.run_bind, run_und hd, Result.andThen_ok, if_true, Sem.run_pure]
      · obtain ⟨z, hz, hk⟩ := NcQ_run _ h
        refine ⟨_, hz, fun w => ?_⟩
        unfold execOp
        simp only [ho]
        refine execV ?_
        rw [hv]
        cases d <;> first
          | exact absurd rfl (hnot _)
          | simp only [Instr.typeAssert, Sem.run_bind, run_und hd, Result.andThen_ok, if_true, hne, if_false, hk w, Sem.run_pure]
    · exact h.elim
  · exact nextV_out h
end
end Go.Proofs.YtkfdkcclojepnaaGreat
