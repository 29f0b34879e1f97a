/- The contract of the package page's Encode. Conditions: the tables stand. -/
import Derived.Test.YtnkdonpammdldaaDoorGe
set_option linter.unusedVariables false
set_option linter.unusedSimpArgs false
namespace Go.Proofs.YtnkdonpammdldaaDoor
open Go Go.RowKit

/-- Where Encode stands while it lays: its page's own bytes, the copy of what came in, nothing old turned. -/
structure EncS (w w1 : World) (b1 : Nat) (p : PgV) (a : Option Addr) (B : List UInt8) : Prop where
  kp : Kp no w w1
  cp : Blk w1 b1 p.cs T_page_Page
  sl : Sl w1 T_uint8 1 a 1024 1024 (bvs B)
  fr : Fresh w a
  ap : ¬ Is a b1
theorem EncS.kp0 {w w1 w2 : World} {b1 : Nat} {p : PgV} {a : Option Addr} {B : List UInt8} (h : EncS w w1 b1 p a B) (k : Kp no w1 w2) : EncS w w2 b1 p a B :=
  ⟨h.kp.trans0 k, k.blk h.cp id, h.sl.kp0 k, h.fr, h.ap⟩
theorem EncS.turn {w w1 w2 : World} {b1 : Nat} {p : PgV} {a : Option Addr} {B B' : List UInt8} (h : EncS w w1 b1 p a B) (k : Kp (Is a) w1 w2) (hs : Sl w2 T_uint8 1 a 1024 1024 (bvs B')) : EncS w w2 b1 p a B' :=
  ⟨h.kp.trans k (fun _ _ h => h) fun j hj hh => by have := h.fr j hh; omega, k.blk h.cp h.ap, hs, h.fr, h.ap⟩

/-- One row of numbers laid into the page. -/
theorem enc_laid {w w1 : World} {b1 : Nat} {p : PgV} {a a2 : Option Addr} {B : List UInt8} {l2 c2 l3 : Nat} {at_ : Int} {ss : List Int} {ns : List Nat} {cs : Array Value} {R : Ending → World → Prop} (hE : EncS w w1 b1 p a B)
    (h2 : Rd w a2 (ints ss)) (hl2 : ss.length = l2) (h2n : ints ss ≠ []) (hcs : cs.toList = u64s ns) (hl3 : ns.length = l3) (hle : ns.length ≤ ss.length) (hn : ∀ n ∈ ns, n < 18446744073709551616) (hss : ∀ s ∈ ss, 0 ≤ s ∧ s ≤ 8) (hat : 0 ≤ at_ ∧ at_ ≤ 1000000) (hl10 : ns.length ≤ 1000)
    (h : ∀ w', EncS w w' b1 p a (laidP B at_ (ss.zip ns)) → Kp (Is a) w1 w' → R (.returned (.tuple #[])) w') :
    AlF w1 (.cells cs T_uint64) fun b4 w2 => GoC Tryd.prog F_page_laid #[.slice a 1024 1024, .int .i64 at_, .slice a2 l2 c2, .slice (some ⟨b4, 0, none⟩) l3 l3] w2 R := by
  refine AlF.intro fun b4 w2 hb4e hb4 k2 _ => ?_
  have hE2 := hE.kp0 k2
  have h3 : Rd w2 (some ⟨b4, 0, none⟩) (u64s ns) := Rd.of_blk hb4 fun i v hv => by rw [Nat.zero_add, ← Array.getElem?_toList, hcs]; exact hv
  have hlt2 := rd_lt h2 h2n
  have hsl := hE.sl.lt
  refine laid_c hE2.sl (by omega) (by omega) (h2.kp0 hE2.kp) hl2 h3 hl3 hle (fun k hk => ⟨fun hh => ?_, fun hh => ?_⟩) hn hss hat hl10 fun w' hs' k' => h w' (hE2.turn k' hs') (k2.of_no.trans0 k')
  · have := hlt2 k hh; have := hE.fr k hk; omega
  · obtain ⟨ad, had, rfl⟩ := hh
    cases had
    have := hsl _ hk
    simp only at this
    omega

theorem ctr_row {w w1 : World} {b1 : Nat} {p : PgV} {a : Option Addr} {B : List UInt8} {i : Nat} {c : CL} {R : Ending → World → Prop} (hz : Szs w) (hE : EncS w w1 b1 p a B) (hi : i ≤ 1000)
    (h : ∀ w', EncS w w' b1 p a (ctr1 B i c) → Kp (Is a) w1 w' → R (.returned (.tuple #[])) w') :
    ∃ (a13 : Option Addr) (l13 c13 : Nat), w1.cell? ⟨3, 0, none⟩ = some (.slice a13 l13 c13) ∧
      AlF w1 (.cells #[.int .u64 (IntKind.wrap .u64 c.id), .int .u64 (IntKind.wrap .u64 c.grp), .int .u64 (IntKind.wrap .u64 c.lo), .int .u64 (IntKind.wrap .u64 c.hi), .int .u64 (IntKind.wrap .u64 c.val)] T_uint64) fun b4 w2 =>
        GoC Tryd.prog F_page_laid #[.slice a 1024 1024, .int .i64 ((16 + 32 * i : Nat) : Int), .slice a13 l13 c13, .slice (some ⟨b4, 0, none⟩) 5 5] w2 R := by
  obtain ⟨a13, c13, hc, hr⟩ := hz.c
  refine ⟨a13, 5, c13, hE.kp.cell hc id, ?_⟩
  refine enc_laid (ns := ctrN c) hE hr rfl (by simp [ints, ctrS]) (by simp [u64s, ctrN, u64_code]) rfl (by simp [ctrN, ctrS]) (fun n hn => ?_) (by decide) ⟨by omega, by omega⟩ (by simp [ctrN]) fun w' hE' k' => h w' (by unfold ctr1; exact hE') k'
  simp only [ctrN, List.mem_cons, List.not_mem_nil, or_false] at hn
  rcases hn with rfl | rfl | rfl | rfl | rfl <;> exact u64n_lt _

theorem grp_row {w w1 : World} {b1 : Nat} {p : PgV} {a : Option Addr} {B : List UInt8} {i : Nat} {c : GL} {R : Ending → World → Prop} (hz : Szs w) (hE : EncS w w1 b1 p a B) (hi : i ≤ 1000)
    (h : ∀ w', EncS w w' b1 p a (grp1 B i c) → Kp (Is a) w1 w' → R (.returned (.tuple #[])) w') :
    ∃ (a13 : Option Addr) (l13 c13 : Nat), w1.cell? ⟨4, 0, none⟩ = some (.slice a13 l13 c13) ∧
      AlF w1 (.cells #[.int .u64 (IntKind.wrap .u64 c.id), .int .u64 (IntKind.wrap .u64 c.sum)] T_uint64) fun b4 w2 =>
        GoC Tryd.prog F_page_laid #[.slice a 1024 1024, .int .i64 ((16 + 12 * i : Nat) : Int), .slice a13 l13 c13, .slice (some ⟨b4, 0, none⟩) 2 2] w2 R := by
  obtain ⟨a13, c13, hc, hr⟩ := hz.g
  refine ⟨a13, 2, c13, hE.kp.cell hc id, ?_⟩
  refine enc_laid (ns := grpN c) hE hr rfl (by simp [ints, grpS]) (by simp [u64s, grpN, u64_code]) rfl (by simp [grpN, grpS]) (fun n hn => ?_) (by decide) ⟨by omega, by omega⟩ (by simp [grpN]) fun w' hE' k' => h w' (by unfold grp1; exact hE') k'
  simp only [grpN, List.mem_cons, List.not_mem_nil, or_false] at hn
  rcases hn with rfl | rfl <;> exact u64n_lt _
end Go.Proofs.YtnkdonpammdldaaDoor
