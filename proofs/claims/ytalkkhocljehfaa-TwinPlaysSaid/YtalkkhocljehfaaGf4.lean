/- Of each function of the program: the predicate that its translated code denotes, printed by wip/gen.py and checked by the kernel. Conditions: none. -/
import Derived.Test.YtalkkhocljehfaaG0
namespace Go.Proofs.Ytalkkhocljehfaa
open Go Go.RowKit
/- (*quota/sectors.Device).sector -/
set_option maxRecDepth 1000000 in
def W_sectors_Device_sector (p1 : Option Addr) (n1 : Int) (w : World) (R : Ending → World → Prop) : Prop :=
  (NilF p1 fun d1 => (∃ (a1 : Option Addr) (l1 c1 : Nat), w.cell? d1 = some (.slice a1 l1 c1) ∧ (SlB c1 l1 (some (IntKind.wrap .i64 (n1 * (512 : Int)))) (some (IntKind.wrap .i64 ((IntKind.wrap .i64 (n1 + (1 : Int))) * (512 : Int)))) (R (.returned (.slice (subA a1 c1 (Int.toNat (IntKind.wrap .i64 (n1 * (512 : Int)))) 1) ((Int.toNat (IntKind.wrap .i64 ((IntKind.wrap .i64 (n1 + (1 : Int))) * (512 : Int)))) - (Int.toNat (IntKind.wrap .i64 (n1 * (512 : Int))))) (c1 - (Int.toNat (IntKind.wrap .i64 (n1 * (512 : Int))))))) w))))
def A_sectors_Device_sector : Ann := { loops := fun _ => [], joins := fun _ => none, held := fun _ => false, tail := fun _ => none }
set_option maxRecDepth 1000000 in
theorem E_sectors_Device_sector (p1 : Option Addr) (n1 : Int) (w : World) (R : Ending → World → Prop) : den Try.prog A_sectors_Device_sector (codeOf Try.f76) (retE Try.prog [.tmp 4] R) (fun _ _ _ => False) (retE Try.prog [.tmp 4] R) (fun _ => PanF R) (fun t => List.getD [(.pointer p1), (.int .i64 n1)] t undef) w = W_sectors_Device_sector p1 n1 w R := by kernel_rfl
set_option maxRecDepth 1000000 in
theorem S_sectors_Device_sector {p1 : Option Addr} {n1 : Int} {w : World} {R : Ending → World → Prop} (h : W_sectors_Device_sector p1 n1 w R) : GoC Try.prog F_sectors_Device_sector #[(.pointer p1), (.int .i64 n1)] w R :=
  ⟨by kernel_rfl, calls_of_den (A := A_sectors_Device_sector) (c := codeOf Try.f76) (l := [.tmp 4]) (args := [(.pointer p1), (.int .i64 n1)]) (by kernel_rfl) Try.func76 (by kernel_rfl) (by kernel_rfl) (by kernel_rfl) (by kernel_rfl) (leB (by kernel_rfl)) (by rw [← E_sectors_Device_sector] at h; exact h)⟩
/- (*quota/quotaref03.Device).lay -/
set_option maxRecDepth 1000000 in
def W_ref03_Device_lay (p1 : Option Addr) (n1 : Int) (a1 : Option Addr) (l1 c1 : Nat) (n2 : Int) (w : World) (R : Ending → World → Prop) : Prop :=
  (AlF w (.cells #[(.int .i64 n1), (.slice a1 l1 c1)] T_api_Pending) fun b1 w1 => (LoopF (S := Int × Unit) ((0 : Int), ()) w1 fun s2 w2 Next2 => ∀ _J : Env, (cond (decide (s2.1 < n2)) (cond (decide (s2.1 < (512 : Int))) (NilF p1 fun d1 => (∃ (a2 : Option Addr) (l2 c2 : Nat), w2.drew.cell? d1 = some (.slice a2 l2 c2) ∧ (∃ (n3 : Int), w2.drew.cell? ⟨b1, 0, none⟩ = some (.int .i64 n3) ∧ (∃ (a3 : Option Addr) (l3 c3 : Nat), w2.drew.cell? (Addr.add ⟨b1, 0, none⟩ 1) = some (.slice a3 l3 c3) ∧ (IdxF a3 s2.1 l3 fun d2 => (∃ (n4 : Int), w2.drew.cell? (d2.add (Int.toNat s2.1)) = some (.int .u8 n4) ∧ (IdxF a2 (IntKind.wrap .i64 ((IntKind.wrap .i64 (n3 * (512 : Int))) + s2.1)) l2 fun d3 => (StF w2.drew (d3.add (Int.toNat (IntKind.wrap .i64 ((IntKind.wrap .i64 (n3 * (512 : Int))) + s2.1)))) (.int .u8 n4) fun w3 => (Next2 ((IntKind.wrap .i64 (s2.1 + (1 : Int))), ()) w3))))))))) (R (.returned (.tuple #[])) w2)) (R (.returned (.tuple #[])) w2))))
def A_ref03_Device_lay : Ann := { loops := fun k => match k with | 2 => [(6, (.sc (.int .i64)))] | _ => [], joins := fun _ => none, held := fun _ => false, tail := fun k => match k with | 4 => some 15 | _ => none }
set_option maxRecDepth 1000000 in
theorem E_ref03_Device_lay (p1 : Option Addr) (n1 : Int) (a1 : Option Addr) (l1 c1 : Nat) (n2 : Int) (w : World) (R : Ending → World → Prop) : den Try.prog A_ref03_Device_lay (codeOf Try.f77) (retE Try.prog [] R) (fun _ _ _ => False) (retE Try.prog [] R) (fun _ => PanF R) (fun t => List.getD [(.pointer p1), (.agg #[(.int .i64 n1), (.slice a1 l1 c1)]), (.int .i64 n2)] t undef) w = W_ref03_Device_lay p1 n1 a1 l1 c1 n2 w R := by kernel_rfl
set_option maxRecDepth 1000000 in
theorem S_ref03_Device_lay {p1 : Option Addr} {n1 : Int} {a1 : Option Addr} {l1 c1 : Nat} {n2 : Int} {w : World} {R : Ending → World → Prop} (h : W_ref03_Device_lay p1 n1 a1 l1 c1 n2 w R) : GoC Try.prog F_ref03_Device_lay #[(.pointer p1), (.agg #[(.int .i64 n1), (.slice a1 l1 c1)]), (.int .i64 n2)] w R :=
  ⟨by kernel_rfl, calls_of_den (A := A_ref03_Device_lay) (c := codeOf Try.f77) (l := []) (args := [(.pointer p1), (.agg #[(.int .i64 n1), (.slice a1 l1 c1)]), (.int .i64 n2)]) (by kernel_rfl) Try.func77 (by kernel_rfl) (by kernel_rfl) (by kernel_rfl) (by kernel_rfl) (leB (by kernel_rfl)) (by rw [← E_ref03_Device_lay] at h; exact h)⟩
/- slices.Backward[[]quota/api.Pending,quota/api.Pending] -/
set_option maxRecDepth 1000000 in
def W_slices_Backward_s_api_Pending_api_Pending (a1 : Option Addr) (l1 c1 : Nat) (w : World) (R : Ending → World → Prop) : Prop :=
  (AlF w (.cells #[(.slice a1 l1 c1)] T_s_api_Pending) fun b1 w1 => (R (.returned (.func (.func F_slices_Backward_s_api_Pending_api_Pending_1) #[] #[(.pointer (some ⟨b1, 0, none⟩))])) w1))
def A_slices_Backward_s_api_Pending_api_Pending : Ann := { loops := fun _ => [], joins := fun _ => none, held := fun _ => false, tail := fun _ => none }
set_option maxRecDepth 1000000 in
theorem E_slices_Backward_s_api_Pending_api_Pending (a1 : Option Addr) (l1 c1 : Nat) (w : World) (R : Ending → World → Prop) : den Try.prog A_slices_Backward_s_api_Pending_api_Pending (codeOf Try.f79) (retE Try.prog [.tmp 2] R) (fun _ _ _ => False) (retE Try.prog [.tmp 2] R) (fun _ => PanF R) (fun t => List.getD [(.slice a1 l1 c1)] t undef) w = W_slices_Backward_s_api_Pending_api_Pending a1 l1 c1 w R := by kernel_rfl
set_option maxRecDepth 1000000 in
theorem S_slices_Backward_s_api_Pending_api_Pending {a1 : Option Addr} {l1 c1 : Nat} {w : World} {R : Ending → World → Prop} (h : W_slices_Backward_s_api_Pending_api_Pending a1 l1 c1 w R) : GoC Try.prog F_slices_Backward_s_api_Pending_api_Pending #[(.slice a1 l1 c1)] w R :=
  ⟨by kernel_rfl, calls_of_den (A := A_slices_Backward_s_api_Pending_api_Pending) (c := codeOf Try.f79) (l := [.tmp 2]) (args := [(.slice a1 l1 c1)]) (by kernel_rfl) Try.func79 (by kernel_rfl) (by kernel_rfl) (by kernel_rfl) (by kernel_rfl) (leB (by kernel_rfl)) (by rw [← E_slices_Backward_s_api_Pending_api_Pending] at h; exact h)⟩
/- quota/sectors.kept -/
set_option maxRecDepth 1000000 in
def W_sectors_kept (a1 : Option Addr) (l1 c1 : Nat) (n1 : Int) (n2 : Int) (n3 : Int) (w : World) (R : Ending → World → Prop) : Prop :=
  (AlF w (.cells #[(.slice a1 l1 c1), (.int .i64 n1), (.int .i64 n2)] T_api_Loss) fun b1 w1 => (NeZ (64 : Int) (∃ (a2 : Option Addr) (l2 c2 : Nat), w1.cell? ⟨b1, 0, none⟩ = some (.slice a2 l2 c2) ∧ (cond (decide ((IntKind.wrap .i64 (Int.tdiv n3 (64 : Int))) < ((l2 : Nat) : Int))) (∃ (a3 : Option Addr) (l3 c3 : Nat), w1.cell? ⟨b1, 0, none⟩ = some (.slice a3 l3 c3) ∧ (NeZ (64 : Int) (IdxF a3 (IntKind.wrap .i64 (Int.tdiv n3 (64 : Int))) l3 fun d1 => (∃ (n4 : Int), w1.cell? (d1.add (Int.toNat (IntKind.wrap .i64 (Int.tdiv n3 (64 : Int))))) = some (.int .u64 n4) ∧ (NeZ (64 : Int) (NnF (Int.tmod n3 (64 : Int)) (R (.returned (.bool ((andV .u64 (shrV .u64 n4 (Int.tmod n3 (64 : Int))) (1 : Int)) == (1 : Int)))) w1))))))) (R (.returned (.bool false)) w1)))))
def A_sectors_kept : Ann := { loops := fun _ => [], joins := fun _ => none, held := fun _ => false, tail := fun _ => none }
set_option maxRecDepth 1000000 in
theorem E_sectors_kept (a1 : Option Addr) (l1 c1 : Nat) (n1 : Int) (n2 : Int) (n3 : Int) (w : World) (R : Ending → World → Prop) : den Try.prog A_sectors_kept (codeOf Try.f80) (retE Try.prog [.tmp 4] R) (fun _ _ _ => False) (retE Try.prog [.tmp 4] R) (fun _ => PanF R) (fun t => List.getD [(.agg #[(.slice a1 l1 c1), (.int .i64 n1), (.int .i64 n2)]), (.int .i64 n3)] t undef) w = W_sectors_kept a1 l1 c1 n1 n2 n3 w R := by kernel_rfl
set_option maxRecDepth 1000000 in
theorem S_sectors_kept {a1 : Option Addr} {l1 c1 : Nat} {n1 : Int} {n2 : Int} {n3 : Int} {w : World} {R : Ending → World → Prop} (h : W_sectors_kept a1 l1 c1 n1 n2 n3 w R) : GoC Try.prog F_sectors_kept #[(.agg #[(.slice a1 l1 c1), (.int .i64 n1), (.int .i64 n2)]), (.int .i64 n3)] w R :=
  ⟨by kernel_rfl, calls_of_den (A := A_sectors_kept) (c := codeOf Try.f80) (l := [.tmp 4]) (args := [(.agg #[(.slice a1 l1 c1), (.int .i64 n1), (.int .i64 n2)]), (.int .i64 n3)]) (by kernel_rfl) Try.func80 (by kernel_rfl) (by kernel_rfl) (by kernel_rfl) (by kernel_rfl) (leB (by kernel_rfl)) (by rw [← E_sectors_kept] at h; exact h)⟩
/- quota/quotaref03.Kept -/
set_option maxRecDepth 1000000 in
def W_ref03_Kept (a1 : Option Addr) (l1 c1 : Nat) (n1 : Int) (n2 : Int) (n3 : Int) (w : World) (R : Ending → World → Prop) : Prop :=
  (AlF w (.cells #[(.slice a1 l1 c1), (.int .i64 n1), (.int .i64 n2)] T_api_Loss) fun b1 w1 => (NeZ (64 : Int) (∃ (a2 : Option Addr) (l2 c2 : Nat), w1.cell? ⟨b1, 0, none⟩ = some (.slice a2 l2 c2) ∧ (cond (decide ((IntKind.wrap .i64 (Int.tdiv n3 (64 : Int))) < ((l2 : Nat) : Int))) (∃ (a3 : Option Addr) (l3 c3 : Nat), w1.cell? ⟨b1, 0, none⟩ = some (.slice a3 l3 c3) ∧ (NeZ (64 : Int) (IdxF a3 (IntKind.wrap .i64 (Int.tdiv n3 (64 : Int))) l3 fun d1 => (∃ (n4 : Int), w1.cell? (d1.add (Int.toNat (IntKind.wrap .i64 (Int.tdiv n3 (64 : Int))))) = some (.int .u64 n4) ∧ (NeZ (64 : Int) (NnF (IntKind.wrap .u64 (Int.tmod n3 (64 : Int))) (R (.returned (.bool ((andV .u64 (shrV .u64 n4 (IntKind.wrap .u64 (Int.tmod n3 (64 : Int)))) (1 : Int)) == (1 : Int)))) w1))))))) (R (.returned (.bool false)) w1)))))
def A_ref03_Kept : Ann := { loops := fun _ => [], joins := fun _ => none, held := fun _ => false, tail := fun _ => none }
set_option maxRecDepth 1000000 in
theorem E_ref03_Kept (a1 : Option Addr) (l1 c1 : Nat) (n1 : Int) (n2 : Int) (n3 : Int) (w : World) (R : Ending → World → Prop) : den Try.prog A_ref03_Kept (codeOf Try.f81) (retE Try.prog [.tmp 4] R) (fun _ _ _ => False) (retE Try.prog [.tmp 4] R) (fun _ => PanF R) (fun t => List.getD [(.agg #[(.slice a1 l1 c1), (.int .i64 n1), (.int .i64 n2)]), (.int .i64 n3)] t undef) w = W_ref03_Kept a1 l1 c1 n1 n2 n3 w R := by kernel_rfl
set_option maxRecDepth 1000000 in
theorem S_ref03_Kept {a1 : Option Addr} {l1 c1 : Nat} {n1 : Int} {n2 : Int} {n3 : Int} {w : World} {R : Ending → World → Prop} (h : W_ref03_Kept a1 l1 c1 n1 n2 n3 w R) : GoC Try.prog F_ref03_Kept #[(.agg #[(.slice a1 l1 c1), (.int .i64 n1), (.int .i64 n2)]), (.int .i64 n3)] w R :=
  ⟨by kernel_rfl, calls_of_den (A := A_ref03_Kept) (c := codeOf Try.f81) (l := [.tmp 4]) (args := [(.agg #[(.slice a1 l1 c1), (.int .i64 n1), (.int .i64 n2)]), (.int .i64 n3)]) (by kernel_rfl) Try.func81 (by kernel_rfl) (by kernel_rfl) (by kernel_rfl) (by kernel_rfl) (leB (by kernel_rfl)) (by rw [← E_ref03_Kept] at h; exact h)⟩
end Go.Proofs.Ytalkkhocljehfaa
