/- The contract of the package page's Encode. Conditions: the tables stand. -/
import Derived.Test.YtnkdonpammdldaaDoorGf
set_option linter.unusedVariables false
set_option linter.unusedSimpArgs false
namespace Go.Proofs.YtnkdonpammdldaaDoor
open Go Go.RowKit

theorem enc_laid2 {w w2 : World} {b1 b4 : Nat} {p : PgV} {a a2 : Option Addr} {B : List UInt8} {l2 c2 l3 : Nat} {at_ : Int} {ss : List Int} {ns : List Nat} {cs : Array Value} {T : TypeId} {R : Ending → World → Prop} (hE2 : EncS w w2 b1 p a B)
    (h2 : Rd w2 a2 (ints ss)) (hl2 : ss.length = l2) (h2n : ∀ k, Is a k → ¬ Is a2 k) (hb4 : Blk w2 b4 cs T) (hnb : ¬ Is a b4) (hcs : cs.toList = u64s ns) (hl3 : ns.length = l3) (hle : ns.length ≤ ss.length) (hn : ∀ n ∈ ns, n < 18446744073709551616) (hss : ∀ s ∈ ss, 0 ≤ s ∧ s ≤ 8) (hat : 0 ≤ at_ ∧ at_ ≤ 1000000) (hl10 : ns.length ≤ 1000)
    (h : ∀ w', EncS w w' b1 p a (laidP B at_ (ss.zip ns)) → Kp (Is a) w2 w' → R (.returned (.tuple #[])) w') :
    GoC Tryd.prog F_page_laid #[.slice a 1024 1024, .int .i64 at_, .slice a2 l2 c2, .slice (some ⟨b4, 0, none⟩) l3 l3] w2 R := by
  have h3 : Rd w2 (some ⟨b4, 0, none⟩) (u64s ns) := Rd.of_blk hb4 fun i v hv => by rw [Nat.zero_add, ← Array.getElem?_toList, hcs]; exact hv
  refine laid_c hE2.sl (by omega) (by omega) h2 hl2 h3 hl3 hle (fun k hk => ⟨h2n k hk, fun hh => ?_⟩) hn hss hat hl10 fun w' hs' k' => h w' (hE2.turn k' hs') k'
  obtain ⟨ad, had, rfl⟩ := hh
  cases had
  exact hnb hk

theorem sl_new {w : World} {b : Nat} {cur : Array Value} (hb : Blk w b cur T_uint8) (hc : cur.toList = bvs page0) : Sl w T_uint8 1 (some ⟨b, 0, none⟩) 1024 1024 (bvs page0) := by
  have h1 : cur.size = 1024 := by rw [← Array.length_toList, hc, bvs_len, page0_len]
  refine ⟨by rw [bvs_len, page0_len], Nat.le_refl _, .inr ⟨b, cur, rfl, hb, by rw [h1], ?_⟩⟩
  rw [← hc]
  exact List.take_of_length_le (by rw [Array.length_toList, h1]; omega)
end Go.Proofs.YtnkdonpammdldaaDoor
