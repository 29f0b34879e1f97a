/- A disk in memory; clones; copies into owned bytes; the small functions of the disk. Conditions: none. -/
import Derived.Test.YtkfdkcclojepnaaTb
import Derived.Test.YtkfdkcclojepnaaG
import Derived.Laws.CopyRow
set_option linter.unusedVariables false
set_option linter.unusedSimpArgs false
namespace Go.Proofs.Ytkfdkcclojepnaa
open Go Go.RowKit

def u64v (n : Nat) : Value := .int .u64 (n : Int)
theorem er_u64 : ElemRow Try.prog T_s_uint64 T_uint64 (.int .u64 0) 1 8 := elemRow (by kernel_rfl) (by kernel_rfl) rfl
theorem er_pd : ElemRow Try.prog T_s_api_Pending T_api_Pending (.agg #[.int .i64 0, .slice none 0 0]) 2 32 := elemRow (by kernel_rfl) (by kernel_rfl) rfl

/-- Many cells of a block at once. -/
theorem setRow_blk {w : World} {b : Nat} {cs new : Array Value} {T : TypeId} (hb : Blk w b cs T) : Blk (w.setRow b new) b new T := setRow_heap w b cs new T (0, 0) hb
theorem Kp.setRow {w : World} {b : Nat} {new : Array Value} : Kp (fun k => k = b) w (w.setRow b new) :=
  ⟨rfl, rfl, rfl, by simp [World.setRow], fun k _ hn => by
    simp only [World.setRow, Array.getElem?_modify]
    rw [if_neg fun h => hn h.symm]⟩
theorem subA_lt {b o c : Nat} (h : o < c) : subA (some ⟨b, 0, none⟩) c o 1 = some ⟨b, o, none⟩ := by
  unfold subA
  rw [if_neg (by omega), Option.map_some, add_at]
  simp
theorem sl_size {w : World} {b : Nat} {cs new : Array Value} : (w.setRow b new).heap.size = w.heap.size := by simp [World.setRow]
theorem bvs_take (l : List UInt8) (n : Nat) : (bvs l).take n = bvs (l.take n) := by simp [bvs]
theorem bvs_drop (l : List UInt8) (n : Nat) : (bvs l).drop n = bvs (l.drop n) := by simp [bvs]
theorem bvs_nil : bvs [] = [] := rfl

/-- copy into owned bytes. -/
theorem copy_own {w : World} {ow : Nat → Nat} {a sa : Option Addr} {l c o dl dc sc t : Nat} {img bs : List UInt8} (h : SlT w ow T_uint8 1 a l c (bvs img) t) (hs : Rd w sa (bvs bs)) (hs0 : sa = none → bs = []) (hd : bs.length ≤ dl) (ho : o + dl ≤ l) {K : Value → World → Prop}
    (hK : ∀ w', SlT w' ow T_uint8 1 a l c (bvs (ovr img o bs)) t → Kp (Is a) w w' → Fro (fun u => u ≠ t) w ow w' ow → K (.int .i64 (bs.length : Int)) w') :
    RunF Try.prog (Builtin.copy_ #[T_s_uint8, T_s_uint8] T_int #[.slice (subA a c o 1) dl dc, .slice sa bs.length sc]) w K := by
  obtain ⟨hsl, htg⟩ := h
  have hil : img.length = l := by have := hsl.1; rw [bvs_len] at this; omega
  by_cases hb0 : bs = []
  · subst hb0
    refine ⟨_, _, run_copy_none (P := Try.prog) w T_s_uint8 T_s_uint8 T_int T_uint8 _ _ dl dc 0 sc (by kernel_rfl) (by kernel_rfl) (Nat.zero_min _), ?_⟩
    refine hK w ⟨by rw [ovr_nil]; exact hsl, htg⟩ (Kp.refl _ _) ⟨Kp.refl _ _, fun _ _ _ => rfl⟩
  · have hbl : 0 < bs.length := by
      cases bs with
      | nil => exact (hb0 rfl).elim
      | cons => simp
    obtain ⟨b, cur, ha, hblk, hcs, htk⟩ := hsl.addr (by omega)
    obtain ⟨bs', os, hsa, _, hsc⟩ := hs.addr (fun h0 => by have := congrArg List.length h0; rw [bvs_len] at this; simp at this; exact hb0 this)
    have hlc := hsl.2.1
    subst ha
    subst hsa
    rw [subA_lt (by omega)]
    refine ⟨_, _, run_copy_row (P := Try.prog) w T_s_uint8 T_s_uint8 T_int T_uint8 b o dl dc ⟨bs', os, none⟩ bs.length sc cur T_uint8 (bvs bs) (by kernel_rfl) (by kernel_rfl) hblk (by rw [bvs_len]; exact (Nat.min_eq_left hd).symm) (fun j v hv => by rw [add_at]; exact hsc j v hv) (by rw [bvs_len]; omega) bvs_one, ?_⟩
    have e : goInt (bvs bs).length = .int .i64 (bs.length : Int) := by rw [bvs_len]; rfl
    rw [e]
    have kk : Kp (Is (some ⟨b, 0, none⟩)) w (w.setRow b (cur.toList.take o ++ bvs bs ++ cur.toList.drop (o + (bvs bs).length)).toArray) := Kp.setRow.mono fun k _ hk => ⟨_, rfl, hk.symm⟩
    refine hK _ ⟨⟨by rw [bvs_len, ovr_len (by omega)]; omega, hlc, .inr ⟨b, _, rfl, setRow_blk hblk, ?_, ?_⟩⟩, htg⟩ kk (Fro.of_kp' kk fun k _ hk hne => hne (htg k hk))
    · simp only [List.size_toArray, List.length_append, List.length_take, List.length_drop, Array.length_toList, bvs_len]
      omega
    · have hcl : cur.toList.length = c := by simpa using hcs
      rw [Nat.mul_one] at htk ⊢
      have h1 : cur.toList.take o = bvs (img.take o) := by rw [← bvs_take, ← htk, List.take_take, Nat.min_eq_left (by omega)]
      show List.take l (List.take o cur.toList ++ bvs bs ++ List.drop (o + (bvs bs).length) cur.toList) = _
      rw [h1, bvs_len]
      unfold ovr
      rw [bvs_app, bvs_app, List.take_append, List.take_of_length_le (by simp only [List.length_append, bvs_len, List.length_take]; omega)]
      congr 1
      rw [← bvs_drop, ← htk, List.drop_take]
      congr 1
      simp only [List.length_append, bvs_len, List.length_take]
      omega

/-- bytes.Clone. -/
theorem clone_c {w : World} {a : Option Addr} {l c : Nat} {bs : List UInt8} {R : Ending → World → Prop} (hr : Rd w a (bvs bs)) (hl : bs.length = l) (h0 : a = none → l = 0) (hb : l ≤ 140737488355328)
    (h : ∀ a' c' w', Sl w' T_uint8 1 a' l c' (bvs bs) → Kp no w w' → Fresh w a' → (a = none ↔ a' = none) → R (.returned (.slice a' l c')) w') : GoC Try.prog F_bytes_Clone #[.slice a l c] w R := by
  refine S_bytes_Clone ?_
  unfold W_bytes_Clone
  cases a with
  | none =>
    have hl0 := h0 rfl
    subst hl0
    have hbs : bs = [] := List.eq_nil_of_length_eq_zero hl
    subst hbs
    exact h none 0 w (Sl.nil _ _ _) (Kp.refl _ _) (fun k hk => (is_none hk).elim) Iff.rfl
  | some ad =>
    refine cond_f rfl (AlF.intro fun b1 w1 hb1e hb1 k1 s1 => ?_)
    have hs1 : Sl w1 T_uint8 1 (some ⟨b1, 0, none⟩) 0 0 (bvs []) := ⟨rfl, Nat.le_refl _, .inr ⟨b1, #[], rfl, hb1, rfl, rfl⟩⟩
    refine append_own er_u8 hs1 (hr.kp0 k1) (by rw [bvs_len]; omega) (fun h => by cases h) bvs_one (by omega) (by omega) fun a' c' w2 hs2 k2 hi2 hroom hgrow => ⟨_, _, _, rfl, ?_⟩
    rw [Nat.zero_add] at hs2 ⊢
    refine h a' c' w2 (by rw [bvs_nil, List.nil_append] at hs2; exact hs2) (k1.trans k2 (fun _ _ h => h) fun k hk hh => ?_) (fun k hk => ?_) ?_
    · obtain ⟨_, he, rfl⟩ := hh; cases he; simp at hk; omega
    · rcases hi2 k hk with hh | hh
      · obtain ⟨_, he, rfl⟩ := hh; cases he; simp; omega
      · omega
    · refine ⟨fun hh => (by cases hh), fun hh => ?_⟩
      subst hh
      by_cases hlz : l ≤ 0
      · obtain ⟨e1, _⟩ := hroom (by omega)
        cases e1
      · have := hs2.2.2
        rcases this with ⟨_, hc0⟩ | ⟨_, _, he, _⟩
        · have := hs2.2.1; omega
        · cases he
theorem u64_one (l : List Nat) : ∀ u ∈ l.map u64v, u.oneCell' = true := fun u hu => by
  obtain ⟨x, _, rfl⟩ := List.mem_map.1 hu
  rfl
/-- slices.Clone of numbers. -/
theorem clone64_c {w : World} {a : Option Addr} {l c : Nat} {ks : List Nat} {R : Ending → World → Prop} (hr : Rd w a (ks.map u64v)) (hl : ks.length = l) (h0 : a = none → l = 0) (hb : l * 8 ≤ 140737488355328)
    (h : ∀ a' c' w', Sl w' T_uint64 1 a' l c' (ks.map u64v) → Kp no w w' → Fresh w a' → R (.returned (.slice a' l c')) w') : GoC Try.prog F_slices_Clone_s_uint64_uint64 #[.slice a l c] w R := by
  refine S_slices_Clone_s_uint64_uint64 ?_
  unfold W_slices_Clone_s_uint64_uint64
  cases a with
  | none =>
    have hl0 := h0 rfl
    subst hl0
    have hbs : ks = [] := List.eq_nil_of_length_eq_zero hl
    subst hbs
    exact h none 0 w (Sl.nil _ _ _) (Kp.refl _ _) (fun k hk => (is_none hk).elim)
  | some ad =>
    refine cond_f rfl (AlF.intro fun b1 w1 hb1e hb1 k1 s1 => ?_)
    have hs1 : Sl w1 T_uint64 1 (some ⟨b1, 0, none⟩) 0 0 [] := ⟨rfl, Nat.le_refl _, .inr ⟨b1, #[], rfl, hb1, rfl, rfl⟩⟩
    refine append_own er_u64 hs1 (hr.kp0 k1) (by simp; omega) (fun h => by cases h) (u64_one ks) (by omega) (by omega) fun a' c' w2 hs2 k2 hi2 hroom hgrow => ⟨_, _, _, rfl, ?_⟩
    rw [Nat.zero_add] at hs2 ⊢
    refine h a' c' w2 (by rw [List.nil_append] at hs2; exact hs2) (k1.trans k2 (fun _ _ h => h) fun k hk hh => ?_) (fun k hk => ?_)
    · obtain ⟨_, he, rfl⟩ := hh; cases he; simp at hk; omega
    · rcases hi2 k hk with hh | hh
      · obtain ⟨_, he, rfl⟩ := hh; cases he; simp; omega
      · omega

/-- A pending write. -/
structure PD where
  sec : Int
  a : Option Addr
  c : Nat
  bs : List UInt8
def PD.cs (x : PD) : List Value := [.int .i64 x.sec, .slice x.a x.bs.length x.c]
def PD.v (x : PD) : Int × List UInt8 := (x.sec, x.bs)
theorem PD.cs_len (x : PD) : x.cs.length = 2 := rfl
def fP : List PD → List Value := flatV PD.cs
theorem fP_len (L : List PD) : (fP L).length = L.length * 2 := flatV_len PD.cs_len L
/-- Where a disk's lists lie. -/
structure Dh where
  ia : Option Addr
  ic : Nat
  pa : Option Addr
  pc : Nat
/-- A disk's lists. -/
structure DL (w : World) (ow : Nat → Nat) (t : Nat) (H : Dh) (Q : List PD) (v : Dv) : Prop where
  im : SlT w ow T_uint8 1 H.ia v.img.length H.ic (bvs v.img) (t + 1)
  pl : SlT w ow T_api_Pending 2 H.pa Q.length H.pc (fP Q) (t + 2)
  pb : ∀ x ∈ Q, SlT w ow T_uint8 1 x.a x.bs.length x.c (bvs x.bs) (t + 3)
  qv : v.q = Q.map PD.v
  ok : v.Ok
section
variable {T : Nat → Prop} {w w' : World} {ow ow' : Nat → Nat} {t b : Nat} {H : Dh} {Q : List PD} {v : Dv}
theorem DL.fr (h : DL w ow t H Q v) (f : Fro T w ow w' ow') (h1 : T (t + 1)) (h2 : T (t + 2)) (h3 : T (t + 3)) : DL w' ow' t H Q v := ⟨h.im.fr f h1, h.pl.fr f h2, fun x hx => (h.pb x hx).fr f h3, h.qv, h.ok⟩
def Dh.cs (H : Dh) (n : Nat) (v : Dv) (ka : Option Addr) (kc : Nat) : Array Value := #[.slice H.ia v.img.length H.ic, .slice H.pa n H.pc, .int .i64 v.step, .slice ka v.keep.length kc, .int .i64 v.torn, .int .i64 v.off, .bool v.down, .int .i64 v.calls]
/-- The program's disk. -/
structure DP (w : World) (ow : Nat → Nat) (t b : Nat) (H : Dh) (Q : List PD) (ka : Option Addr) (kc : Nat) (v : Dv) : Prop where
  l : DL w ow t H Q v
  hb : Blk w b (H.cs Q.length v ka kc) T_sectors_Device
  bt : ow b = t
  kp : SlT w ow T_uint64 1 ka v.keep.length kc (v.keep.map u64v) (t + 3)
theorem DP.fr {ka : Option Addr} {kc : Nat} (h : DP w ow t b H Q ka kc v) (f : Fro T w ow w' ow') (h0 : T t) (h1 : T (t + 1)) (h2 : T (t + 2)) (h3 : T (t + 3)) : DP w' ow' t b H Q ka kc v :=
  ⟨h.l.fr f h1 h2 h3, (blk_fr h.hb h.bt f h0).1, (blk_fr h.hb h.bt f h0).2, h.kp.fr f h3⟩
theorem Fro.kp0 (k : Kp no w w') : Fro (fun _ => True) w ow w' ow := Fro.new k fun _ _ => rfl
theorem DP.kp0 {ka : Option Addr} {kc : Nat} (h : DP w ow t b H Q ka kc v) (k : Kp no w w') : DP w' ow t b H Q ka kc v := h.fr (Fro.kp0 k) trivial trivial trivial trivial
end

/-- What a changing call may not turn. -/
abbrev Td (t : Nat) : Nat → Prop := fun u => u ≠ t ∧ u ≠ t + 1 ∧ u ≠ t + 2
/-- Values that can be read, in a block whose owner is in U. -/
def RdT (w : World) (ow : Nat → Nat) (U : Nat → Prop) (a : Option Addr) (vs : List Value) : Prop := ∀ i v, vs[i]? = some v → ∃ b o, a = some ⟨b, o, none⟩ ∧ w.cell? ⟨b, o + i, none⟩ = some v ∧ U (ow b)
section
variable {T U : Nat → Prop} {w w' : World} {ow ow' : Nat → Nat} {a : Option Addr} {vs : List Value}
theorem RdT.rd (h : RdT w ow U a vs) : Rd w a vs := fun i v hv => by
  obtain ⟨b, o, h1, h2, _⟩ := h i v hv
  exact ⟨b, o, h1, h2⟩
theorem RdT.fr (h : RdT w ow U a vs) (f : Fro T w ow w' ow') (hT : ∀ u, U u → T u) : RdT w' ow' U a vs := fun i v hv => by
  obtain ⟨b, o, h1, h2, h3⟩ := h i v hv
  refine ⟨b, o, h1, f.kp.cell h2 fun hn => hn (hT _ h3), ?_⟩
  rw [f.ag b (cell_lt h2) (hT _ h3)]
  exact h3
theorem RdT.mono {U' : Nat → Prop} (h : RdT w ow U a vs) (hu : ∀ u, U u → U' u) : RdT w ow U' a vs := fun i v hv => by
  obtain ⟨b, o, h1, h2, h3⟩ := h i v hv
  exact ⟨b, o, h1, h2, hu _ h3⟩
theorem SlT.rdT {e : TypeId} {s l c u : Nat} (h : SlT w ow e s a l c vs u) : RdT w ow (fun x => x = u) a vs := fun i v hv => by
  obtain ⟨b, o, h1, h2⟩ := h.sl.rd i v hv
  exact ⟨b, o, h1, h2, h.tg b ⟨_, h1, rfl⟩⟩
theorem Old.rdT {w0 : World} (h : Old w0 w ow) (hr : Rd w0 a vs) : RdT w ow (fun x => x = 0) a vs := fun i v hv => by
  obtain ⟨b, o, h1, h2⟩ := hr i v hv
  exact ⟨b, o, h1, h.kp.cell h2 id, h.z b (cell_lt h2)⟩
end

/-- The number of sectors. -/
theorem sectors_c {w : World} {b l ic : Nat} {ia : Option Addr} {R : Ending → World → Prop} (hc : w.cell? ⟨b, 0, none⟩ = some (.slice ia l ic)) (hl : l ≤ 140737488355328) (h : R (.returned (.int .i64 ((l / 512 : Nat) : Int))) w) : GoC Try.prog F_sectors_Device_Sectors #[.pointer (some ⟨b, 0, none⟩)] w R := by
  refine S_sectors_Device_Sectors ?_
  unfold W_sectors_Device_Sectors
  refine ⟨_, _, _, hc, by decide, ?_⟩
  have e : IntKind.wrap .i64 (Int.tdiv (l : Int) 512) = ((l / 512 : Nat) : Int) := by
    rw [show Int.tdiv (l : Int) 512 = ((l / 512 : Nat) : Int) from rfl]
    exact wrap_i64 (by omega) (by omega)
  rw [e]
  exact h
/-- A sector's place. -/
theorem sector_c {w : World} {b n ic i : Nat} {ia : Option Addr} {R : Ending → World → Prop} (hc : w.cell? ⟨b, 0, none⟩ = some (.slice ia (n * 512) ic)) (hl : n ≤ 8192) (hic : n * 512 ≤ ic) (hi : i < n) (h : R (.returned (.slice (subA ia ic (i * 512) 1) 512 (ic - i * 512))) w) :
    GoC Try.prog F_sectors_Device_sector #[.pointer (some ⟨b, 0, none⟩), .int .i64 (i : Int)] w R := by
  refine S_sectors_Device_sector ?_
  unfold W_sectors_Device_sector
  have e1 : IntKind.wrap .i64 ((i : Int) * 512) = ((i * 512 : Nat) : Int) := by rw [wrap_i64 (by omega) (by omega)]; omega
  have e2 : IntKind.wrap .i64 ((i : Int) + 1) = ((i + 1 : Nat) : Int) := by rw [wrap_i64 (by omega) (by omega)]; omega
  have e3 : IntKind.wrap .i64 (((i + 1 : Nat) : Int) * 512) = (((i + 1) * 512 : Nat) : Int) := by rw [wrap_i64 (by omega) (by omega)]; omega
  rw [e2, e1, e3]
  refine ⟨_, _, _, hc, ⟨by omega, by omega⟩, ⟨by omega, by simp only [hiOf]; omega⟩, ?_⟩
  rw [Int.toNat_natCast, Int.toNat_natCast, show (i + 1) * 512 - i * 512 = 512 by omega]
  exact h
/-- Is a write kept? -/
theorem kept_c {w : World} {a : Option Addr} {c k : Nat} {keep : List Nat} {n1 n2 : Int} {R : Ending → World → Prop} (hr : Rd w a (keep.map u64v)) (hlt : ∀ x ∈ keep, x < 18446744073709551616) (hkl : keep.length ≤ 9223372036854775807) (hk : k ≤ 1000000000) (h : ∀ w', Kp no w w' → R (.returned (.bool (keptN keep k))) w') :
    GoC Try.prog F_sectors_kept #[.agg #[.slice a keep.length c, .int .i64 n1, .int .i64 n2], .int .i64 (k : Int)] w R := by
  refine S_sectors_kept ?_
  unfold W_sectors_kept
  refine AlF.intro fun b1 w1 hb1e hb1 k1 s1 => ⟨by decide, ?_⟩
  have e1 : IntKind.wrap .i64 (Int.tdiv (k : Int) 64) = ((k / 64 : Nat) : Int) := by
    rw [show Int.tdiv (k : Int) 64 = ((k / 64 : Nat) : Int) from rfl]
    exact wrap_i64 (by omega) (by omega)
  have e2 : Int.tmod (k : Int) 64 = ((k % 64 : Nat) : Int) := rfl
  rw [e1, e2]
  refine ⟨_, _, _, hb1.cell 0, cond_d (fun hlt' => ?_) (fun hge => ?_)⟩
  · have hkk : k / 64 < keep.length := by omega
    refine ⟨_, _, _, hb1.cell 0, by decide, ?_⟩
    obtain ⟨b, o, ha, hcell⟩ := (hr.kp0 k1) (k / 64) (u64v keep[k / 64]) (by simp [hkk])
    refine ⟨by omega, hlt', _, ha, (keep[k / 64] : Int), by rw [Int.toNat_natCast, add_at]; exact hcell, by decide, by omega, ?_⟩
    have hx := hlt _ (List.getElem_mem hkk)
    have e3 : andV .u64 (shrV .u64 (keep[k / 64] : Int) ((k % 64 : Nat) : Int)) 1 = ((keep[k / 64] / 2 ^ (k % 64) % 2 : Nat) : Int) := by
      rw [shrV_nat (by simp only [IntKind.bits]; omega), show (1 : Int) = ((1 : Nat) : Int) from rfl, andV_nat rfl (by simp only [IntKind.bits]; exact Nat.lt_of_le_of_lt (Nat.div_le_self _ _) (by omega)) (by simp only [IntKind.bits]; omega), and_1]
    rw [e3]
    have e4 : (((keep[k / 64] / 2 ^ (k % 64) % 2 : Nat) : Int) == 1) = keptN keep k := by
      unfold keptN
      rw [decide_eq_true hkk, Bool.true_and]
      have : keep.getD (k / 64) 0 = keep[k / 64] := by simp [hkk]
      rw [this]
      rw [Bool.eq_iff_iff, beq_iff_eq, decide_eq_true_eq]
      omega
    rw [e4]
    exact h w1 k1
  · have e4 : keptN keep k = false := by
      unfold keptN
      rw [decide_eq_false (by omega), Bool.false_and]
    have := h w1 k1
    rw [e4] at this
    exact this
end Go.Proofs.Ytkfdkcclojepnaa
