/- Contract of the statements' made of layer 5. Conditions: lists of at most 100. -/
import Derived.Test.YtjhncijdkmbopaaSa
set_option linter.unusedVariables false
set_option linter.unusedSimpArgs false
namespace Go.Proofs.Ytjhncijdkmbopaa
open Go Go.RowKit

def mkK (r : RV) : Int := rstI r.kind 1 8
def mkN (r : RV) : Int := rstI r.lsn 2 2147483647
def mkTx (r : RV) : Int := rstI r.tx 1 2147483647
def mkP (r : RV) : Int := rstI r.prev 1 (mkN r - 1)
def mkWp (r : RV) : Int := rstI r.wp 0 62
def mkWi (r : RV) : Int := rstI r.wi 0 30
def mkSp (r : RV) : Int := rstI r.sp (mkWp r + 1) 63
def mkSi (r : RV) : Int := rstI r.si 0 83
def mkI (r : RV) : Int := rstI r.id 1 1048576
def mkG (r : RV) : Int := rstI r.grp 1 1048576
def mkLo (r : RV) : Int := if r.hi < r.lo then r.hi else r.lo
def mkHi (r : RV) : Int := if r.hi > r.lo then r.hi else r.lo
def mkV1 (r : RV) : Int := if mkLo r > r.val then mkLo r else r.val
def mkV (r : RV) : Int := if mkHi r < mkV1 r then mkHi r else mkV1 r
/-- The record that the statements make of any. -/
def madeR (r : RV) : RV :=
  if mkK r = 1 then { lsn := mkN r, kind := mkK r, tx := mkTx r }
  else if mkK r = 2 then { lsn := mkN r, kind := mkK r, wp := mkWp r, wi := mkWi r, sp := mkSp r, si := mkSi r, id := mkI r, grp := mkG r, lo := mkLo r, hi := mkHi r, val := mkV r }
  else if mkK r = 3 ∨ mkK r = 4 then { lsn := mkN r, kind := mkK r, tx := mkTx r, prev := mkP r, wp := mkWp r, wi := mkWi r, sp := mkSp r, si := mkSi r, id := mkI r, delta := r.delta }
  else if mkK r = 5 ∨ mkK r = 6 ∨ mkK r = 7 then { lsn := mkN r, kind := mkK r, tx := mkTx r, prev := mkP r }
  else { lsn := mkN r, kind := mkK r, next := rstI r.next (ptAt (r.live.take 32) 0 + 1) 2147483648, live := ptLs (mkN r) (r.live.take 32) 0, dirty := ptDs (mkN r) r.dirty (-1) 0 }

theorem mk_b (r : RV) : (1 ≤ mkK r ∧ mkK r ≤ 8) ∧ (2 ≤ mkN r ∧ mkN r ≤ 2147483647) ∧ (0 ≤ mkWp r ∧ mkWp r ≤ 62) := ⟨rstI_in (by omega), rstI_in (by omega), rstI_in (by omega)⟩

theorem Bx.pt {w0 w : World} {ow : Nat → Nat} {b1 b2 o : Nat} {q : RV} {m : Mm} {ad : Addr} {v : Int} {K : World → Prop} (h : Bx w0 w ow b1 b2 q m) (ho : o ∈ plc) (had : ad = ⟨b2, o, none⟩)
    (hk : ∀ w', Bx w0 w' ow b1 b2 (q.put v o) m → Fro (fun t => t ≠ 2) w ow w' ow → K w') : StF w ad (.int .i64 v) K :=
  h.st (q.put v o) m had (plc_lt ho) (put_cell _ _ _ ho) hk

theorem slotF {w : World} {ow : Nat → Nat} {p i : Int} {b : Nat} {w' : World} (t : Nat) (hb : Blk w' b #[.int .i64 0, .int .i64 0] T_api_Slot) (hge : w.heap.size ≤ b) (k : Kp no w w') {S : World → Prop} (hS : ∀ w'' ow', Fro (fun _ => True) w ow w'' ow' → S w'') {K : World → Prop}
    (hK : ∀ w'', Fro (fun _ => True) w ow w'' (ext ow w.heap.size t) → Blk w'' b #[.int .i64 p, .int .i64 i] T_api_Slot → K w'') :
    S w' ∧ StF w' ⟨b, 0, none⟩ (.int .i64 p) fun w1 => StF w1 (Addr.add ⟨b, 0, none⟩ 1) (.int .i64 i) fun w2 => S w2 ∧ K w2 := by
  refine ⟨hS w' _ (Fro.of_kp0 t k), StF.at rfl hb (by simp) fun w1 x1 k1 _ => StF.at rfl x1 (by simp) fun w2 x2 k2 _ => ?_⟩
  have kk : Kp no w w2 := kp_blk k hge (k1.trans0 k2)
  exact ⟨hS w2 _ (Fro.of_kp0 t kk), hK w2 (Fro.of_kp0 t kk) x2⟩

theorem RdT.nil (w : World) (ow : Nat → Nat) (a : Option Addr) (t : Nat) : RdT w ow a [] t := ⟨Rd.nil _ _, fun h => absurd rfl h⟩

set_option maxHeartbeats 2000000 in
theorem made_c {w : World} {r : RV} {m : Mm} {R : Ending → World → Prop} (hi : LiIn w m r.live r.dirty) (hl1 : r.live.length ≤ 100) (hd1 : r.dirty.length ≤ 100)
    (h : ∀ m' w', Kp no w w' → LiIn w' m' (madeR r).live (madeR r).dirty → R (.returned (.agg ((madeR r).ca m'))) w') :
    GoC Try.prog F_law05_made #[.agg (r.ca m)] w R := by
  refine S_law05_made ?_
  unfold W_law05_made
  obtain ⟨bk, bn, bw⟩ := mk_b r
  refine AlF.intro fun b1 w1 hb1e hb1 k1 _ => AlF.intro fun b2 w2 hb2e hb2 k2 _ => AlF.intro fun b3 w3 hb3e hb3 k3 _ => ?_
  have f1 : Fro (fun _ => True) w (fun _ => 0) w1 (ext (fun _ => 0) w.heap.size 6) := Fro.of_kp0 6 k1
  have f2 : Fro (fun _ => True) w1 (ext (fun _ => 0) w.heap.size 6) w2 (ext (ext (fun _ => 0) w.heap.size 6) w1.heap.size 1) := Fro.of_kp0 1 k2
  have f3 : Fro (fun _ => True) w2 (ext (ext (fun _ => 0) w.heap.size 6) w1.heap.size 1) w3 (ext (ext (ext (fun _ => 0) w.heap.size 6) w1.heap.size 1) w2.heap.size 2) := Fro.of_kp0 2 k3
  have t1 : ext (fun _ => 0) w.heap.size 6 b1 = 6 := ext_new (by omega)
  have t2 : ext (ext (fun _ => 0) w.heap.size 6) w1.heap.size 1 b2 = 1 := ext_new (by omega)
  have o0 : Old w w fun _ => 0 := ⟨Kp.refl _ _, fun _ _ => rfl⟩
  have o3 := ((o0.fr f1 trivial).fr f2 trivial).fr f3 trivial
  obtain ⟨x1, t1⟩ := blk_fr hb1 t1 f2 trivial
  obtain ⟨x1, t1⟩ := blk_fr x1 t1 f3 trivial
  obtain ⟨x2, t2⟩ := blk_fr hb2 t2 f3 trivial
  have bx3 : Bx w w3 (ext (ext (ext (fun _ => 0) w.heap.size 6) w1.heap.size 1) w2.heap.size 2) b2 b3 {} {} := ⟨o3, x2, t2, hb3, ext_new (by omega)⟩
  generalize ext (ext (ext (fun _ => 0) w.heap.size 6) w1.heap.size 1) w2.heap.size 2 = ow at *
  clear f1 f2 f3 k1 k2 k3 hb1 hb2 hb3
  refine ⟨r.kind, x1.at rfl rfl, rest_c (by omega) (by omega) (by omega) ⟨_, rfl, ?_⟩⟩
  refine bx3.st { kind := mkK r } {} rfl (Nat.le_of_ble_eq_true rfl) rfl fun w5 bx5 f5 => ?_
  obtain ⟨x1, t1⟩ := blk_fr x1 t1 f5 (by omega)
  refine ⟨r.lsn, x1.at rfl rfl, rest_c (by omega) (by omega) (by omega) ⟨_, rfl, ?_⟩⟩
  refine bx5.st { lsn := mkN r, kind := mkK r } {} rfl (Nat.le_of_ble_eq_true rfl) rfl fun w7 bx7 f7 => ?_
  obtain ⟨x1, t1⟩ := blk_fr x1 t1 f7 (by omega)
  refine ⟨r.tx, x1.at rfl rfl, rest_c (by omega) (by omega) (by omega) ⟨_, rfl, ?_⟩⟩
  have wn : IntKind.wrap .i64 (mkN r - 1) = mkN r - 1 := wrap_i64 (by omega) (by omega)
  refine ⟨r.prev, x1.at rfl rfl, mkN r, bx7.x2.at rfl rfl, ?_⟩
  rw [wn]
  refine rest_c (by omega) (by omega) (by omega) ⟨_, rfl, ?_⟩
  refine ⟨fun s w' => ∃ b4 ow', s.1 = some ⟨b4, 0, none⟩ ∧ Bx w w' ow' b2 b3 { lsn := mkN r, kind := mkK r } {} ∧ Blk w' b1 (r.ca m) T_api_Record ∧ ow' b1 = 6 ∧ Blk w' b4 #[.int .i64 (mkWp r), .int .i64 (mkWi r)] T_api_Slot ∧ ow' b4 = 7, ?_, ?_⟩
  · have fd : Fro (fun _ => True) w7 ow w7.drew ow := Fro.of_kp' (Kp.drew w7 1) fun _ _ hh => hh.elim
    refine ⟨fun w' => ∃ ow', Fro (fun _ => True) w7 ow w' ow', ⟨ow, fd⟩, r.wp, fun w' ⟨ow', f'⟩ => (blk_fr x1 t1 f' trivial).1.at rfl rfl, r.wi, fun w' ⟨ow', f'⟩ => (blk_fr x1 t1 f' trivial).1.at rfl rfl, ?_⟩
    have fin : ∀ b w', Blk w' b #[.int .i64 0, .int .i64 0] T_api_Slot → w7.heap.size ≤ b → Kp no w7 w' → (∃ ow', Fro (fun _ => True) w7 ow w' ow') ∧ StF w' ⟨b, 0, none⟩ (.int .i64 (mkWp r)) fun w1 => StF w1 (Addr.add ⟨b, 0, none⟩ 1) (.int .i64 (mkWi r)) fun w2 => (∃ ow', Fro (fun _ => True) w7 ow w2 ow') ∧
        ∃ b4 ow', some (⟨b, 0, none⟩ : Addr) = some ⟨b4, 0, none⟩ ∧ Bx w w2 ow' b2 b3 { lsn := mkN r, kind := mkK r } {} ∧ Blk w2 b1 (r.ca m) T_api_Record ∧ ow' b1 = 6 ∧ Blk w2 b4 #[.int .i64 (mkWp r), .int .i64 (mkWi r)] T_api_Slot ∧ ow' b4 = 7 := fun b w' hb hge k =>
      slotF 7 hb hge k (S := fun w' => ∃ ow', Fro (fun _ => True) w7 ow w' ow') (fun w'' ow' f => ⟨ow', f⟩) fun w2 f y => ⟨b, _, rfl, bx7.fr f trivial trivial trivial, (blk_fr x1 t1 f trivial).1, (blk_fr x1 t1 f trivial).2, y, ext_new hge⟩
    have kd : Kp no w7 w7.drew := Kp.drew w7 1
    refine ⟨rest_c (by omega) (by omega) (by omega) ⟨_, rfl, ⟨ow, fd⟩, rest_c (by omega) (by omega) (by omega) ⟨_, rfl, ⟨ow, fd⟩, AlF.intro fun b w' hbe hb k _ => fin b w' hb (by have := kd.size; omega) (kd.trans0 k)⟩, AlF.intro fun b w' hbe hb k _ => ?_⟩, AlF.intro fun b w' hbe hb k _ => ?_⟩
    · have := fin b w' hb (by have := kd.size; omega) (kd.trans0 k)
      exact ⟨this.1, rest_c (by omega) (by omega) (by omega) ⟨_, rfl, this⟩⟩
    · have := fin b w' hb (by have := kd.size; omega) (kd.trans0 k)
      exact ⟨this.1, rest_c (by omega) (by omega) (by omega) ⟨_, rfl, this.1, rest_c (by omega) (by omega) (by omega) ⟨_, rfl, this⟩⟩⟩
  clear bx7 bx5 bx3 x1 x2 t1 t2 f5 f7 o3
  rintro ⟨s, u⟩ w8 ⟨b4, ow8, hs, bx8, x1, t1, x4, t4⟩ _
  dsimp only at hs ⊢
  subst hs
  refine ⟨fun s w' => ∃ b5 ow', s.1 = some ⟨b5, 0, none⟩ ∧ Bx w w' ow' b2 b3 { lsn := mkN r, kind := mkK r } {} ∧ Blk w' b1 (r.ca m) T_api_Record ∧ ow' b1 = 6 ∧ Blk w' b4 #[.int .i64 (mkWp r), .int .i64 (mkWi r)] T_api_Slot ∧ ow' b4 = 7 ∧ Blk w' b5 #[.int .i64 (mkSp r), .int .i64 (mkSi r)] T_api_Slot ∧ ow' b5 = 8, ?_, ?_⟩
  · have fd : Fro (fun _ => True) w8 ow8 w8.drew ow8 := Fro.of_kp' (Kp.drew w8 1) fun _ _ hh => hh.elim
    have wp1 : IntKind.wrap .i64 (mkWp r + 1) = mkWp r + 1 := wrap_i64 (by omega) (by omega)
    refine ⟨fun w' => ∃ ow', Fro (fun _ => True) w8 ow8 w' ow', ⟨ow8, fd⟩, r.sp, fun w' ⟨ow', f'⟩ => (blk_fr x1 t1 f' trivial).1.at rfl rfl, NilF.intro rfl ⟨mkWp r, fun w' ⟨ow', f'⟩ => (blk_fr x4 t4 f' trivial).1.at rfl rfl, r.si, fun w' ⟨ow', f'⟩ => (blk_fr x1 t1 f' trivial).1.at rfl rfl, ?_⟩⟩
    rw [wp1]
    have fin : ∀ b w', Blk w' b #[.int .i64 0, .int .i64 0] T_api_Slot → w8.heap.size ≤ b → Kp no w8 w' → (∃ ow', Fro (fun _ => True) w8 ow8 w' ow') ∧ StF w' ⟨b, 0, none⟩ (.int .i64 (mkSp r)) fun w1 => StF w1 (Addr.add ⟨b, 0, none⟩ 1) (.int .i64 (mkSi r)) fun w2 => (∃ ow', Fro (fun _ => True) w8 ow8 w2 ow') ∧
        ∃ b5 ow', some (⟨b, 0, none⟩ : Addr) = some ⟨b5, 0, none⟩ ∧ Bx w w2 ow' b2 b3 { lsn := mkN r, kind := mkK r } {} ∧ Blk w2 b1 (r.ca m) T_api_Record ∧ ow' b1 = 6 ∧ Blk w2 b4 #[.int .i64 (mkWp r), .int .i64 (mkWi r)] T_api_Slot ∧ ow' b4 = 7 ∧ Blk w2 b5 #[.int .i64 (mkSp r), .int .i64 (mkSi r)] T_api_Slot ∧ ow' b5 = 8 := fun b w' hb hge k =>
      slotF 8 hb hge k (S := fun w' => ∃ ow', Fro (fun _ => True) w8 ow8 w' ow') (fun w'' ow' f => ⟨ow', f⟩) fun w2 f y => ⟨b, _, rfl, bx8.fr f trivial trivial trivial, (blk_fr x1 t1 f trivial).1, (blk_fr x1 t1 f trivial).2, (blk_fr x4 t4 f trivial).1, (blk_fr x4 t4 f trivial).2, y, ext_new hge⟩
    have kd : Kp no w8 w8.drew := Kp.drew w8 1
    refine ⟨rest_c (by omega) (by omega) (by omega) ⟨_, rfl, ⟨ow8, fd⟩, rest_c (by omega) (by omega) (by omega) ⟨_, rfl, ⟨ow8, fd⟩, AlF.intro fun b w' hbe hb k _ => fin b w' hb (by have := kd.size; omega) (kd.trans0 k)⟩, AlF.intro fun b w' hbe hb k _ => ?_⟩, AlF.intro fun b w' hbe hb k _ => ?_⟩
    · have := fin b w' hb (by have := kd.size; omega) (kd.trans0 k)
      exact ⟨this.1, rest_c (by omega) (by omega) (by omega) ⟨_, rfl, this⟩⟩
    · have := fin b w' hb (by have := kd.size; omega) (kd.trans0 k)
      exact ⟨this.1, rest_c (by omega) (by omega) (by omega) ⟨_, rfl, this.1, rest_c (by omega) (by omega) (by omega) ⟨_, rfl, this⟩⟩⟩
  clear bx8 x1 t1 x4 t4
  rintro ⟨s, u⟩ w9 ⟨b5, ow9, hs, bx9, x1, t1, x4, t4, x5, t5⟩ _
  dsimp only at hs ⊢
  subst hs
  refine ⟨r.id, x1.at rfl rfl, rest_c (by omega) (by omega) (by omega) ⟨_, rfl, ?_⟩⟩
  refine ⟨fun _ w' => ∃ m' ow', Bx w w' ow' b2 b3 (madeR r) m' ∧ RdT w' ow' m'.la (flatV LV.cs (madeR r).live) 4 ∧ RdT w' ow' m'.da (flatV DV.cs (madeR r).dirty) 4 ∧ (madeR r).live.length = m'.ll ∧ (madeR r).dirty.length = m'.dl ∧ m'.ll < 140737488355329 ∧ m'.dl < 140737488355329, ?_, ?_⟩
  · have nolist : ∀ q w' ow', Bx w w' ow' b2 b3 q {} → q = madeR r → q.live = [] → q.dirty = [] → ∃ m' ow', Bx w w' ow' b2 b3 (madeR r) m' ∧ RdT w' ow' m'.la (flatV LV.cs (madeR r).live) 4 ∧ RdT w' ow' m'.da (flatV DV.cs (madeR r).dirty) 4 ∧ (madeR r).live.length = m'.ll ∧ (madeR r).dirty.length = m'.dl ∧ m'.ll < 140737488355329 ∧ m'.dl < 140737488355329 := fun q w' ow' hb he h1 h2 => by
      subst he
      rw [h1, h2]
      exact ⟨{}, ow', hb, RdT.nil _ _ _ _, RdT.nil _ _ _ _, rfl, rfl, by decide, by decide⟩
    refine ⟨mkK r, bx9.x2.at rfl rfl, cond_eq (fun e1 => ?_) (fun n1 => cond_eq (fun e2 => ?_) (fun n2 => ?_))⟩
    · refine bx9.pt (o := 2) (by decide) rfl fun wa bxa fa => nolist _ _ _ bxa ?_ rfl rfl
      unfold madeR
      rw [if_pos e1]
      rfl
    · refine NilF.intro rfl ⟨_, _, ⟨x4.at rfl rfl, x4.at rfl rfl, trivial⟩, ?_⟩
      refine bx9.pt (o := 4) (by decide) rfl fun wa bxa fa => bxa.pt (o := 5) (by decide) rfl fun wb bxb fb => ?_
      obtain ⟨x5, t5⟩ := blk_fr x5 t5 fa (by omega)
      obtain ⟨x5, t5⟩ := blk_fr x5 t5 fb (by omega)
      obtain ⟨x1, t1⟩ := blk_fr x1 t1 fa (by omega)
      obtain ⟨x1, t1⟩ := blk_fr x1 t1 fb (by omega)
      refine NilF.intro rfl ⟨_, _, ⟨x5.at rfl rfl, x5.at rfl rfl, trivial⟩, ?_⟩
      refine bxb.pt (o := 6) (by decide) rfl fun wa bxa fa => bxa.pt (o := 7) (by decide) rfl fun wb bxb fb => ?_
      obtain ⟨x1, t1⟩ := blk_fr x1 t1 fa (by omega)
      obtain ⟨x1, t1⟩ := blk_fr x1 t1 fb (by omega)
      refine ⟨r.grp, x1.at rfl rfl, rest_c (by omega) (by omega) (by omega) ⟨_, rfl, ?_⟩⟩
      refine bxb.pt (o := 9) (by decide) rfl fun wa bxa fa => bxa.pt (o := 10) (by decide) rfl fun wb bxb fb => bxb.pt (o := 11) (by decide) rfl fun wc bxc fc => bxc.pt (o := 12) (by decide) rfl fun wd bxd fd => bxd.pt (o := 13) (by decide) rfl fun we bxe fe => ?_
      have ff := (((fa.trans fb).trans fc).trans fd).trans fe
      obtain ⟨x1, t1⟩ := blk_fr x1 t1 ff (by omega)
      refine ⟨r.lo, x1.at rfl rfl, r.hi, x1.at rfl rfl, r.lo, x1.at rfl rfl, r.hi, x1.at rfl rfl, ?_⟩
      refine bxe.pt (o := 11) (by decide) rfl fun wa bxa fa => bxa.pt (o := 12) (by decide) rfl fun wb bxb fb => ?_
      obtain ⟨x1, t1⟩ := blk_fr x1 t1 fa (by omega)
      obtain ⟨x1, t1⟩ := blk_fr x1 t1 fb (by omega)
      refine ⟨r.val, x1.at rfl rfl, bxb.pt (o := 13) (by decide) rfl fun wc bxc fc => nolist _ _ _ bxc ?_ rfl rfl⟩
      unfold madeR
      rw [if_neg n1, if_pos e2]
      rfl
    refine ⟨fun s w' => s.1 = decide (mkK r = 3 ∨ mkK r = 4) ∧ w' = w9, ?_, ?_⟩
    · refine cond_eq (fun e => ⟨by simp [e], rfl⟩) (fun e => ⟨?_, rfl⟩)
      by_cases e4 : mkK r = 4 <;> simp [e, e4]
    rintro ⟨s, u⟩ w' ⟨hs, rfl⟩ _
    dsimp only at hs ⊢
    rw [hs]
    refine cond_d (fun e34 => ?_) (fun n34 => ?_)
    · refine bx9.pt (o := 2) (by decide) rfl fun wa bxa fa => bxa.pt (o := 3) (by decide) rfl fun wb bxb fb => ?_
      obtain ⟨x4, t4⟩ := blk_fr x4 t4 fa (by omega)
      obtain ⟨x4, t4⟩ := blk_fr x4 t4 fb (by omega)
      refine NilF.intro rfl ⟨_, _, ⟨x4.at rfl rfl, x4.at rfl rfl, trivial⟩, ?_⟩
      obtain ⟨x5, t5⟩ := blk_fr x5 t5 fa (by omega)
      obtain ⟨x5, t5⟩ := blk_fr x5 t5 fb (by omega)
      obtain ⟨x1, t1⟩ := blk_fr x1 t1 fa (by omega)
      obtain ⟨x1, t1⟩ := blk_fr x1 t1 fb (by omega)
      refine bxb.pt (o := 4) (by decide) rfl fun wa bxa fa => bxa.pt (o := 5) (by decide) rfl fun wb bxb fb => ?_
      obtain ⟨x5, t5⟩ := blk_fr x5 t5 fa (by omega)
      obtain ⟨x5, t5⟩ := blk_fr x5 t5 fb (by omega)
      obtain ⟨x1, t1⟩ := blk_fr x1 t1 fa (by omega)
      obtain ⟨x1, t1⟩ := blk_fr x1 t1 fb (by omega)
      refine NilF.intro rfl ⟨_, _, ⟨x5.at rfl rfl, x5.at rfl rfl, trivial⟩, ?_⟩
      refine bxb.pt (o := 6) (by decide) rfl fun wa bxa fa => bxa.pt (o := 7) (by decide) rfl fun wb bxb fb => bxb.pt (o := 9) (by decide) rfl fun wc bxc fc => ?_
      obtain ⟨x1, t1⟩ := blk_fr x1 t1 ((fa.trans fb).trans fc) (by omega)
      refine ⟨r.delta, x1.at rfl rfl, bxc.pt (o := 8) (by decide) rfl fun wd bxd fd => nolist _ _ _ bxd ?_ rfl rfl⟩
      unfold madeR
      rw [if_neg n1, if_neg n2, if_pos e34]
      rfl
    refine ⟨fun s w'' => s.1 = decide (mkK r = 5 ∨ mkK r = 6 ∨ mkK r = 7) ∧ w'' = w', ?_, ?_⟩
    · refine cond_eq (fun e => ⟨by simp [e], rfl⟩) (fun e => cond_eq (fun e6 => ⟨by simp [e6], rfl⟩) (fun e6 => ⟨?_, rfl⟩))
      by_cases e7 : mkK r = 7 <;> simp [e, e6, e7]
    rintro ⟨s, u⟩ w'' ⟨hs, rfl⟩ _
    dsimp only at hs ⊢
    rw [hs]
    refine cond_d (fun e567 => ?_) (fun n567 => ?_)
    · refine bx9.pt (o := 2) (by decide) rfl fun wa bxa fa => bxa.pt (o := 3) (by decide) rfl fun wb bxb fb => nolist _ _ _ bxb ?_ rfl rfl
      unfold madeR
      rw [if_neg n1, if_neg n2, if_neg n34, if_pos e567]
      rfl
    have hm : madeR r = { lsn := mkN r, kind := mkK r, next := rstI r.next (ptAt (r.live.take 32) 0 + 1) 2147483648, live := ptLs (mkN r) (r.live.take 32) 0, dirty := ptDs (mkN r) r.dirty (-1) 0 } := by
      unfold madeR
      rw [if_neg n1, if_neg n2, if_neg n34, if_neg n567]
    refine ⟨_, _, _, _, _, _, _, ⟨x1.at rfl rfl, x1.at rfl rfl, x1.at rfl rfl, trivial⟩, mkN r, bx9.x2.at rfl rfl, ?_⟩
    refine spoints_c (m := m) (hi.kp0 bx9.old.kp) hl1 hd1 bn.1 bn.2 fun m' wa ka hLa ha1 ha2 => ⟨_, _, _, _, _, _, _, rfl, ?_⟩
    have fa : Fro (fun _ => True) w'' ow9 wa (ext ow9 w''.heap.size 4) := Fro.of_kp0 4 ka
    have bxa := bx9.fr fa trivial trivial trivial
    have lv : RdT wa (ext ow9 w''.heap.size 4) m'.la (flatV LV.cs (ptLs (mkN r) (r.live.take 32) 0)) 4 := ⟨hLa.l, fun _ k hk => ext_new (ha1 k hk)⟩
    have dv : RdT wa (ext ow9 w''.heap.size 4) m'.da (flatV DV.cs (ptDs (mkN r) r.dirty (-1) 0)) 4 := ⟨hLa.d, fun _ k hk => ext_new (ha2 k hk)⟩
    generalize ext ow9 w''.heap.size 4 = owa at *
    refine bxa.st { lsn := mkN r, kind := mkK r } { la := m'.la, ll := m'.ll, lc := m'.lc } rfl (Nat.le_of_ble_eq_true rfl) rfl fun wb bxb fb => ?_
    refine bxb.st { lsn := mkN r, kind := mkK r } m' rfl (Nat.le_of_ble_eq_true rfl) rfl fun wc bxc fc => ?_
    refine bxc.st { lsn := mkN r, kind := mkK r, next := rstI r.next (ptAt (r.live.take 32) 0 + 1) 2147483648, live := ptLs (mkN r) (r.live.take 32) 0, dirty := ptDs (mkN r) r.dirty (-1) 0 } m' rfl (Nat.le_of_ble_eq_true rfl) rfl fun wd bxd fd => ?_
    have ff := (fb.trans fc).trans fd
    rw [hm]
    exact ⟨m', owa, bxd, lv.fr ff (by omega), dv.fr ff (by omega), hLa.ll, hLa.dl, hLa.lb, hLa.db⟩
  rintro _ wa ⟨m', owa, bx, lv, dv, hll, hdl, hlb, hdb⟩ _
  refine rec_rd bx.x2 (rec_st bx.x1 (madeR r) m' fun wb hb kb => rec_rd hb ?_)
  have f5 : Fro (fun t => t ≠ 1) wa owa wb owa := Fro.of_kp' kb fun b _ hb' hne => hne (by rw [hb']; exact bx.t1)
  exact h m' wb (bx.old.fr f5 (by omega)).kp ⟨(lv.fr f5 (by omega)).rd, hll, hlb, (dv.fr f5 (by omega)).rd, hdl, hdb⟩
end Go.Proofs.Ytjhncijdkmbopaa
