/- The contract of 'reads' of the statements' table of layer 2. Conditions: as its bounds say. -/
import Derived.Test.YtplfoedgekdjgaaDoorHg
set_option linter.unusedVariables false
set_option linter.unusedSimpArgs false
namespace Go.Proofs.YtplfoedgekdjgaaDoor
open Go Go.RowKit

/-- The calls of a reader and of the document's leave a table again. -/
theorem tab_read {w0 w2 w6 : World} {ow : Nat → Nat} {tb M n : Nat} {p s r d : Bool → Value} {l m : Value} {j : Bool} {B B' : Nat} {g g' : Option Addr} {bs : List UInt8} {at_ e : Nat}
    (hold : Old w0 w2 ow) (hT : TabP w2 ow tb M n p s r d l m) (hr : r j = .pointer (some ⟨B, 0, none⟩)) (hd : d j = .pointer (some ⟨B', 0, none⟩)) (hl : bs.length ≤ 4000)
    (t1 : Tg ow (tr j) (fpW B g)) (t2 : Tg ow (tr j + 1) (fpW B' g')) (hre : Re w6 B g bs at_ e) (hrf : Rf w6 B' g' bs at_ e) (k6 : Kp (fun k => ow k = tr j ∨ ow k = tr j + 1) w2 w6) :
    Old w0 w6 ow ∧ TabI w6 ow tb M n := by
  have hj := tr_le j
  have fro : Fro (fun t => t ≠ tr j ∧ t ≠ tr j + 1) w2 ow w6 ow := ⟨k6.mono fun k _ hk ht => by rcases hk with h | h; exact ht.1 h; exact ht.2 h, fun _ _ _ => rfl⟩
  refine ⟨hold.fr fro ⟨by omega, by omega⟩, p, s, r, d, l, m, k6.blk hT.blk (by rw [hT.own]; omega), hT.own, fun i => ?_, fun i => ?_, hT.bk.fr fro ⟨by omega, by omega⟩ ⟨by omega, by omega⟩ ⟨by omega, by omega⟩ (Nat.le_refl _)⟩
  · have hi := tw_le i
    exact (hT.wr i).fr fro ⟨by omega, by omega⟩ ⟨by omega, by omega⟩ (Nat.le_refl _)
  · by_cases hij : i = j
    · subst hij
      exact ⟨B, g, B', g', bs, at_, e, hr, hd, hl, hre, hrf, t1, t2⟩
    · have hne := tr_ne hij
      exact (hT.rd i).fr fro ⟨hne.1, hne.2.1⟩ ⟨hne.2.2, by omega⟩

theorem sl_lent {w : World} {b l c : Nat} {cur : Array Value} {A : List UInt8} (hblk : Blk w b cur T_uint8) (hl : A.length = l) (hs : cur.size = c) (hc : l + 3 ≤ c) (htk : cur.toList.take (l + 3) = bvs (A ++ marks)) : Sl w T_uint8 1 (some ⟨b, 0, none⟩) l c (bvs A) := by
  refine ⟨by rw [bvs_len, hl, Nat.mul_one], by omega, .inr ⟨b, cur, rfl, hblk, by omega, ?_⟩⟩
  have : cur.toList.take l = (cur.toList.take (l + 3)).take l := by rw [List.take_take]; congr 1; omega
  rw [Nat.mul_one, this, htk, bvs_app, List.take_left' (by rw [bvs_len, hl])]

set_option maxHeartbeats 1000000 in
theorem reads_c {w0 w : World} {ow : Nat → Nat} {tb M n : Nat} {o : OpL} {A : List UInt8} {R : Ending → World → Prop} (hold : Old w0 w ow) (hT : TabI w ow tb M n) (ho : o.ok) (hA : o.Bs w0 A) (hbl : o.bl ≤ 4000)
    (h : ∀ w' ow', Old w0 w' ow' → TabI w' ow' tb M n → R (.returned (.bool true)) w') : GoC Tryd.prog F_law02_Table_reads #[.pointer (some ⟨tb, 0, none⟩), .agg o.cs] w R := by
  refine S_law02_Table_reads ?_
  unfold W_law02_Table_reads
  refine AlF.intro fun b1 w1 hb1e hb1 k1 _ => ?_
  refine ⟨o.kind, o.wh, o.n, o.i, o.at_, o.size, o.ba, o.bl, o.bc, o.pa, o.pl, o.pc, ⟨hb1.cell 0, by rw [add_at]; exact hb1.cell 1, by rw [add_at]; exact hb1.cell 2, by rw [add_at]; exact hb1.cell 3, by rw [add_at]; exact hb1.cell 4, by rw [add_at]; exact hb1.cell 5, by rw [add_at]; exact hb1.cell 6, by rw [add_at]; exact hb1.cell 7, trivial⟩, ?_⟩
  refine which_c (o := o) fun w2 k2 => ⟨_, rfl, ?_⟩
  rw [ix_eq]
  have k12 := k1.trans0 k2
  have f12 : Fro (fun _ => True) w ow w2 (ext ow w.heap.size 99) := Fro.of_kp0 99 k12
  have hold2 := hold.fr f12 trivial
  obtain ⟨p, s, r, d, l, m, hT0⟩ := hT
  have hT2 := hT0.fr f12 (fun _ _ => trivial) (Nat.le_refl _) (Nat.le_refl _)
  have hob : ext ow w.heap.size 99 b1 = 99 := ext_new (by omega)
  have hb2 := k2.blk hb1 id
  have hb2lt := hb2.lt
  generalize ext ow w.heap.size 99 = ow2 at *
  clear hT0 hold f12 hb1 k1 k2 k12 hb1e
  generalize hj : o.wh = j
  have htj := tr_le j
  have hix := ix_lt j
  obtain ⟨B, g, B', g', bs, at_, e, hr, hd, hbl4, hre, hrf, t1, t2⟩ := hT2.rd j
  have kd : Kp no w2 w2.drew := Kp.drew w2 1
  have nre : ∀ k, fpW B' g' k → k ≠ B := fun k hk hh => by have := t2 k hk; have := t1 B (.inl rfl); rw [hh] at *; omega
  have kB : ∀ {y z : World}, Kp (fun k => k = B) y z → Kp (fun k => ow2 k = tr j ∨ ow2 k = tr j + 1) y z := fun kk => kk.mono fun k _ hk => .inl (by subst hk; exact t1 _ (.inl rfl))
  have kB' : ∀ {y z : World}, Kp (fun k => k = B') y z → Kp (fun k => ow2 k = tr j ∨ ow2 k = tr j + 1) y z := fun kk => kk.mono fun k _ hk => .inr (by subst hk; exact t2 _ (.inl rfl))
  have htbO := hT2.own
  have cr : ∀ wz, Kp (fun k => ow2 k = tr j ∨ ow2 k = tr j + 1) w2 wz → wz.cell? (Addr.add (Addr.add ⟨tb, 0, none⟩ 4) (Int.toNat ((ix j : Nat) : Int))) = some (.pointer (some ⟨B, 0, none⟩)) := fun wz kz => by rw [← hr]; exact tab_r (kz.blk hT2.blk (by rw [htbO]; omega))
  have cd : ∀ wz, Kp (fun k => ow2 k = tr j ∨ ow2 k = tr j + 1) w2 wz → wz.cell? (Addr.add (Addr.add ⟨tb, 0, none⟩ 6) (Int.toNat ((ix j : Nat) : Int))) = some (.pointer (some ⟨B', 0, none⟩)) := fun wz kz => by rw [← hd]; exact tab_d (kz.blk hT2.blk (by rw [htbO]; omega))
  have cn : ∀ wz, Kp (fun k => ow2 k = tr j ∨ ow2 k = tr j + 1) w2 wz → wz.cell? (Addr.add ⟨b1, 0, none⟩ 2) = some (.int .u64 (o.n : Int)) := fun wz kz => by rw [add_at]; exact (kz.blk hb2 (by rw [hob]; omega)).cell 2
  refine ⟨fun _ w' => ∃ ow', Old w0 w' ow' ∧ TabI w' ow' tb M n, ?_, ?_⟩
  · refine ⟨o.kind, hb2.cell 0, ?_⟩
    refine cond_eq (fun hk6 => ?_) (fun _ => cond_eq (fun hk7 => ?_) (fun _ => cond_eq (fun hk8 => ?_) (fun _ => cond_eq (fun hk9 => ?_) (fun _ => ⟨ow2, hold2, p, s, r, d, l, m, hT2⟩))))
    · -- a new reader
      have A2 := hA.kp0 hold2.kp
      have hAl := hA.len
      refine ⟨o.ba, o.bl, o.bc, by rw [add_at]; exact hb2.cell 6, ?_⟩
      refine lent_c A2.rd hA.len hA.nil (by omega) fun b2 cur c2 w3 hbo hcs hcap htk k3 hf3 => ⟨_, _, _, rfl, ?_⟩
      have s3 := k3.size
      have hbolt := hbo.lt
      refine ⟨fun _ => True, trivial, ?_⟩
      have kd3 : Kp no w3 w3.drew := Kp.drew w3 1
      refine newReader_c (rd_lent (hbo : Blk w3.drew b2 cur T_uint8) hA.len htk) hA.len (fun h => by cases h) (by omega) fun Bn gn w4 hr4 k4 hBn hfn => ⟨_, rfl, trivial, by omega, hix, ?_⟩
      have k34 := kd3.trans0 k4
      have s34 := k34.size
      have hBn3 : w3.heap.size ≤ Bn := hBn
      have hfn3 : ∀ k, Is gn k → w3.heap.size ≤ k := hfn
      have htblt := hT2.blk.lt
      have hb4 := (k3.trans0 k34).blk hT2.blk id
      refine st_r hb4 fun w5 hb5 k5 s5 => ⟨trivial, ?_⟩
      have ob5 := k5.blk ((k3.trans0 k34).blk hb2 id) (fun hh => by rw [hh] at hob; omega)
      refine ⟨fun w' => Kp (fun k => k = tb) w5 w', (Kp.drew w5 1).of_no, ?_⟩
      have c6 : ∀ wz, Kp (fun k => k = tb) w5 wz → wz.cell? (Addr.add ⟨b1, 0, none⟩ 6) = some (.slice o.ba o.bl o.bc) := fun wz kz => by rw [add_at]; exact (kz.blk ob5 (fun hh => by rw [hh] at hob; omega)).cell 6
      refine ⟨o.ba, o.bl, o.bc, fun wz kz => c6 wz kz, ?_⟩
      have k25 : Kp (fun k => k = tb) w2 w5 := ((k3.trans0 k34).of_no).trans0 k5
      have oldK : ∀ {wz : World}, Kp (fun k => k = tb) w2 wz → Kp no w0 wz := fun kz => hold2.kp.trans kz (fun _ _ h => h) fun k hk hh => by subst hh; have := hold2.z _ hk; omega
      have A5 := hA.kp0 (oldK k25)
      have kd5 : Kp no w5 w5.drew := Kp.drew w5 1
      refine refNewReader_c (A5.kp0 kd5).rd hA.len hA.nil (by omega) fun Bd gd w6 hd6 k6 hBd hfd => ⟨_, rfl, (kd5.trans0 k6).of_no, by omega, hix, ?_⟩
      have k56 := kd5.trans0 k6
      have s56 := k56.size
      have hBd5 : w5.heap.size ≤ Bd := hBd
      have hfd5 : ∀ k, Is gd k → w5.heap.size ≤ k := hfd
      refine st_d (k56.blk hb5 id) fun w7 hb7 k7 s7 => ⟨k56.of_no.trans0 k7, ?_⟩
      have k57 : Kp (fun k => k = tb) w5 w7 := k56.of_no.trans0 k7
      have k27 := k25.trans0 k57
      have hbo7 : Blk w7 b2 cur T_uint8 := k57.blk (k5.blk (k34.blk hbo id) (by omega)) (by omega)
      have A7 := hA.kp0 (oldK k27)
      refine ⟨fun s' w' => s'.1 = false ∧ Kp no w7 w', ?_, ?_⟩
      · refine ⟨by omega, hix, some ⟨Bn, 0, none⟩, by rw [tab_r hb7]; simp [updB], cond_f rfl ?_⟩
        refine ⟨o.ba, o.bl, o.bc, c6 w7 k57, ?_⟩
        refine kept_c (rd_marks hbo7 htk) (by rw [List.length_append, hAl]; rfl) (by omega) (by simp) A7.rd hA.len hA.nil (by omega) fun w8 k8 => ⟨_, rfl, ?_, k8⟩
        simp
      rintro ⟨b8, u8⟩ w9 ⟨hb8, k9⟩ _
      dsimp only at hb8
      subst hb8
      refine cond_f rfl ?_
      have hso := sl_lent (k9.blk hbo7 id) hA.len hcs hcap htk
      have k29 : Kp (fun k => k = tb) w2 w9 := k27.trans0 k9.of_no
      refine loopN (fun s' w' => Kp (fun k => k = b2) w9 w' ∧ ∃ (i : Nat) (X : List UInt8), s'.1 = (i : Int) ∧ Sl w' T_uint8 1 (some ⟨b2, 0, none⟩) o.bl c2 (bvs X)) (fun s' _ => o.bl - s'.1.toNat) ⟨Kp.refl _ _, 0, A, rfl, hso⟩ ?_
      rintro ⟨i0, u⟩ w10 ⟨k10, i, X, hi0, hx⟩ _
      dsimp only at hi0 ⊢
      subst hi0
      have hXl : X.length = o.bl := by rw [← bvs_len]; exact hx.len
      refine cond_d (fun hlt => ?_) (fun hge => ?_)
      · have hwi : IntKind.wrap .i64 ((i : Int) + 1) = ((i + 1 : Nat) : Int) := by rw [wrap_i64 (by omega) (by omega)]; omega
        rw [hwi]
        have hiX : i < X.length := by omega
        refine hx.rd.idx (by omega) hlt (by rw [bvs_len]; omega) fun b o' hg hc => ?_
        refine ⟨((X[i]).toNat : Int), by rw [Int.toNat_natCast, add_at]; exact hc i _ (bvs_get hiX), by omega, hlt, _, rfl, ?_⟩
        dsimp only
        rw [Int.toNat_natCast, add_at]
        have hval : Value.int .u8 (IntKind.wrap .u8 (((X[i]).toNat : Int) + 1)) = bv (UInt8.ofNat (((X[i]).toNat + 1) % 256)) := by
          have : ((X[i]).toNat : Int) + 1 = (((X[i]).toNat + 1 : Nat) : Int) := by omega
          rw [this, u8_mod]
          exact bv_of (by omega)
        rw [hval]
        refine hx.put (by omega) rfl fun w11 hs11 k11 _ => ⟨⟨k10.trans0 (k11.mono fun k _ hk => by obtain ⟨ad, had, rfl⟩ := hk; cases had; rfl), i + 1, X.set i (UInt8.ofNat (((X[i]).toNat + 1) % 256)), rfl, ?_⟩, by simp only [Int.toNat_natCast]; omega⟩
        rw [bvs, List.map_set]
        exact hs11
      · -- the table stands again
        have s9 := k9.size
        have old : ∀ k, k < w2.heap.size → ext (ext (ext ow2 w2.heap.size 99) w3.heap.size (tr j)) w5.heap.size (tr j + 1) k = ow2 k := fun k hk => by rw [ext_old (by omega), ext_old (by omega), ext_old hk]
        have k2t : Kp (fun k => k = tb) w2 w10 := k29.trans k10 (fun _ _ h => h) fun k hk hh => by omega
        have fro : Fro (fun t => t ≠ tr j ∧ t ≠ tr j + 1 ∧ t ≠ 1) w2 ow2 w10 (ext (ext (ext ow2 w2.heap.size 99) w3.heap.size (tr j)) w5.heap.size (tr j + 1)) :=
          ⟨k2t.mono fun k _ hk ht => ht.2.2 (by subst hk; exact htbO), fun k hk _ => old k hk⟩
        have nn : ∀ k, fpW Bn gn k → w3.heap.size ≤ k ∧ k < w4.heap.size := fun k hk => ⟨by
          rcases hk with rfl | hk
          · exact hBn3
          · exact hfn3 k hk, hr4.lt k hk⟩
        have nd : ∀ k, fpW Bd gd k → w5.heap.size ≤ k := fun k hk => by
          rcases hk with rfl | hk
          · exact hBd5
          · exact hfd5 k hk
        refine ⟨_, hold2.fr fro ⟨by omega, by omega, by omega⟩, p, s, updB r j (.pointer (some ⟨Bn, 0, none⟩)), updB d j (.pointer (some ⟨Bd, 0, none⟩)), l, m, (k10.blk (k9.blk hb7 id) (by omega)), by rw [old tb htblt, htbO], fun i => ?_, fun i => ?_, hT2.bk.fr fro ⟨by omega, by omega, by omega⟩ ⟨by omega, by omega, by omega⟩ ⟨by omega, by omega, by omega⟩ (Nat.le_refl _)⟩
        · have hi := tw_le i
          exact (hT2.wr i).fr fro ⟨by omega, by omega, by omega⟩ ⟨by omega, by omega, by omega⟩ (Nat.le_refl _)
        · by_cases hij : i = j
          · subst hij
            refine ⟨Bn, gn, Bd, gd, A, 0, 0, by simp [updB], by simp [updB], by omega, ?_, ?_, fun k hk => ?_, fun k hk => ext_new (nd k hk)⟩
            · exact (((hr4.kp k5 fun k hk => by have := nn k hk; omega).kp k57 fun k hk => by have := nn k hk; omega).kp0 k9).kp k10 fun k hk => by have := nn k hk; omega
            · exact ((hd6.kp k7 fun k hk => by have := nd k hk; omega).kp0 k9).kp k10 fun k hk => by have := nd k hk; omega
            · have := nn k hk
              rw [ext_old (by omega), ext_new this.1]
          · have hne := tr_ne hij
            have hi := tr_le i
            have e1 : updB r j (.pointer (some ⟨Bn, 0, none⟩)) i = r i := by simp [updB, hij]
            have e2 : updB d j (.pointer (some ⟨Bd, 0, none⟩)) i = d i := by simp [updB, hij]
            rw [e1, e2]
            exact (hT2.rd i).fr fro ⟨hne.1, hne.2.1, by omega⟩ ⟨hne.2.2, by omega, by omega⟩
    · -- U
      refine ⟨fun w' => Kp (fun k => ow2 k = tr j ∨ ow2 k = tr j + 1) w2 w', kd.of_no, ?_⟩
      refine ⟨by omega, hix, some ⟨B, 0, none⟩, fun wz kz => cr wz kz, (o.n : Int), fun wz kz => cn wz kz, by omega, hix, some ⟨B', 0, none⟩, fun wz kz => cd wz kz, (o.n : Int), fun wz kz => cn wz kz, ?_⟩
      refine reader_U (st := (at_, e)) (m := o.n) (hre.kp0 kd) (by omega) fun w3 hr3 k3 => ⟨_, rfl, kd.of_no.trans0 (kB k3), ?_⟩
      have k23 := kd.of_no.trans0 (kB k3)
      refine ref_U (st := (at_, e)) (m := o.n) ((hrf.kp0 kd).kp k3 nre) (by omega) fun w4 hr4 k4 => ⟨_, rfl, k23.trans0 (kB' k4), ?_⟩
      have hx : (((rdU bs (at_, e) o.n).1 : Int) == ((rdU bs (at_, e) o.n).1 : Int)) = true := by simp
      rw [hx]
      obtain ⟨h1, h2⟩ := tab_read hold2 hT2 hr hd hbl4 t1 t2 (hr3.kp k4 fun k hk hh => by subst hh; have := t1 _ hk; have := t2 _ (.inl rfl); omega) hr4 (k23.trans0 (kB' k4))
      exact h _ _ h1 h2
    · -- S
      refine ⟨fun w' => Kp (fun k => ow2 k = tr j ∨ ow2 k = tr j + 1) w2 w', kd.of_no, ?_⟩
      refine ⟨by omega, hix, some ⟨B, 0, none⟩, fun wz kz => cr wz kz, by omega, hix, some ⟨B', 0, none⟩, fun wz kz => cd wz kz, ?_⟩
      refine reader_S (st := (at_, e)) (hre.kp0 kd) (by omega) fun w3 hr3 k3 => ⟨_, rfl, kd.of_no.trans0 (kB k3), ?_⟩
      have k23 := kd.of_no.trans0 (kB k3)
      refine ref_S (st := (at_, e)) ((hrf.kp0 kd).kp k3 nre) (by omega) fun w4 hr4 k4 => ⟨_, rfl, k23.trans0 (kB' k4), ?_⟩
      have hx : (unzig (rdU bs (at_, e) 18446744073709551615).1 == unzig (rdU bs (at_, e) 18446744073709551615).1) = true := by simp
      rw [hx]
      obtain ⟨h1, h2⟩ := tab_read hold2 hT2 hr hd hbl4 t1 t2 (hr3.kp k4 fun k hk hh => by subst hh; have := t1 _ hk; have := t2 _ (.inl rfl); omega) hr4 (k23.trans0 (kB' k4))
      exact h _ _ h1 h2
    · -- End
      refine ⟨by omega, hix, some ⟨B, 0, none⟩, cr w2 (Kp.refl _ _), ?_⟩
      refine reader_End (st := (at_, e)) hre fun w3 hr3 k3 => ⟨rfl, by omega, hix, some ⟨B', 0, none⟩, cd w3 (kB k3), ?_⟩
      refine ref_End (st := (at_, e)) (hrf.kp k3 nre) fun w4 hr4 k4 => ⟨rfl, ow2, ?_⟩
      exact tab_read hold2 hT2 hr hd hbl4 t1 t2 (hr3.kp k4 fun k hk hh => by subst hh; have := t1 _ hk; have := t2 _ (.inl rfl); omega) hr4 ((kB k3).trans0 (kB' k4))
  · rintro u w3 ⟨ow3, hold3, p, s, r, d, l, m, hT3⟩ _
    obtain ⟨B, g, B', g', bs, at_, e, hr, hd, hbl4, hre, hrf, t1, t2⟩ := hT3.rd j
    refine ⟨by omega, hix, some ⟨B, 0, none⟩, by rw [← hr]; exact tab_r hT3.blk, ?_⟩
    refine reader_Fault (st := (at_, e)) hre fun w4 k4 => ⟨_, _, rfl, ?_⟩
    refine ⟨by omega, hix, some ⟨B', 0, none⟩, by rw [← hd]; exact tab_d (k4.blk hT3.blk id), ?_⟩
    refine ref_Fault (st := (at_, e)) (hrf.kp0 k4) fun w5 k5 => ⟨_, _, rfl, ?_⟩
    refine cond_t (by simp) (num_c ⟨_, rfl, ?_⟩)
    have hx : ((e : Int) == (e : Int)) = true := by simp
    dsimp only
    rw [hx]
    have fro : Fro (fun _ => True) w3 ow3 w5 (ext ow3 w3.heap.size 99) := Fro.of_kp0 99 (k4.trans0 k5)
    exact h _ _ (hold3.fr fro trivial) ⟨p, s, r, d, l, m, hT3.fr fro (fun _ _ => trivial) (Nat.le_refl _) (Nat.le_refl _)⟩
end Go.Proofs.YtplfoedgekdjgaaDoor
