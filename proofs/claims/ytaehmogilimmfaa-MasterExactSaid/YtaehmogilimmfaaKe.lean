/- Layer 4: Point, Open; the statements' awake, layout. Conditions: the disk's queue and its loss's list are short. -/
import Derived.Test.YtaehmogilimmfaaKd
set_option linter.unusedVariables false
set_option linter.unusedSimpArgs false
namespace Go.Proofs.Ytaehmogilimmfaa
open Go Go.RowKit

def pointR (v : Dv) (lsn : Int) : Nat × Dv :=
  if lsn < 0 ∨ 2147483647 < lsn then (4, v) else if (mstR v).2 ≠ 0 then ((mstR v).2, v) else if (mstR v).1.st = 4611686018427387904 then (6, v) else v.put ((((mstR v).1.st + 1) % 2 : Nat) : Int) (slotB ((mstR v).1.st + 1) (mstR v).1.s lsn)

set_option maxRecDepth 100000 in
theorem mpoint_cF {w : World} {ow : Nat → Nat} {t b : Nat} {v : Dv} {lsn : Int} {R : Ending → World → Prop} (h : DX w ow t b v) (hs : v.Sm 800000)
    (hK : ∀ e w' ow', DX w' ow' t b (pointR v lsn).2 → Fro (Td t) w ow w' ow' → ErrV w' e zP ((pointR v lsn).1 : Int) → ErrF w e → R (.returned e) w') : GoC Try.prog F_master_Point #[.pointer (some ⟨b, 0, none⟩), .int .i64 lsn] w R := by
  refine S_master_Point ?_
  unfold W_master_Point
  refine cond_f rfl ?_
  have bad : ∀ (e : Nat) w3, (e : Int) ≠ 0 → pointR v lsn = (e, v) → Kp no w w3 → GoC Try.prog F_master_fail #[.string zP, .int .i64 (e : Int)] w3 fun en w4 => match en with
      | .returned r1 => ∃ v1 : Value, r1 = v1 ∧ R (.returned v1) w4
      | .panicked ch => R (.panicked ch) w4
      | .outgrown => False := fun e w3 he hf k3 =>
    fail_cF he fun v' w4 k4 hv hfr => ⟨v', rfl, by
      have hk := hK v' w4 ow
      rw [hf] at hk
      exact hk (h.kp0 (k3.trans0 k4)) (Fro.kp0 (k3.trans0 k4) |>.mono fun u (_ : Td t u) => trivial) hv (hfr.mono k3.size)⟩
  refine cond_d (fun h1 => bad 4 w (by decide) (by unfold pointR; rw [if_pos (.inl h1)]) (Kp.refl _ _)) (fun h1 => ?_)
  refine cond_d (fun h2 => bad 4 w (by decide) (by unfold pointR; rw [if_pos (.inr h2)]) (Kp.refl _ _)) (fun h2 => ?_)
  have hp : pointR v lsn = if (mstR v).2 ≠ 0 then ((mstR v).2, v) else if (mstR v).1.st = 4611686018427387904 then (6, v) else v.put ((((mstR v).1.st + 1) % 2 : Nat) : Int) (slotB ((mstR v).1.st + 1) (mstR v).1.s lsn) := by
    unfold pointR
    rw [if_neg (by omega)]
  refine mmaster_c h ⟨by have := hs.q; omega, hs.k⟩ fun w1 k1 => ⟨_, _, _, _, _, _, rfl, ?_⟩
  have hok := @mstR_ok v
  generalize mstR v = m at *
  obtain ⟨x, e⟩ := m
  dsimp only at *
  refine slot_al x fun b1 w2 hb1 k2 hge => ?_
  have k02 := k1.trans0 k2
  refine cond_ne (fun hne => ?_) (fun hz => ?_)
  · rw [if_pos (by omega)] at hp
    exact bad e w2 hne hp k02
  rw [if_neg (by omega)] at hp
  obtain ⟨hm, hst⟩ := hok (by omega)
  refine ⟨_, hb1.at rfl rfl, cond_eq (fun h62 => ?_) (fun h62 => ?_)⟩
  · rw [if_pos (by omega)] at hp
    exact bad 6 w2 (by decide) hp k02
  rw [if_neg (by omega)] at hp
  have ew : IntKind.wrap .u64 ((x.st : Int) + 1) = ((x.st + 1 : Nat) : Int) := by rw [wrap_u64 (by omega) (by omega)]; omega
  refine ⟨_, hb1.at rfl rfl, ?_⟩
  rw [ew]
  clear ew
  refine StF.at rfl hb1 (by simp) fun w3 hb3 k3 _ => StF.at rfl hb3 (by simp) fun w4 hb4 k4 _ => ?_
  have hb4 : Blk w4 b1 #[.int .u64 ((x.st + 1 : Nat) : Int), .int .i64 x.s.pg, .int .i64 x.s.lg, .int .i64 x.s.fr, .int .i64 lsn] T_master_slot := hb4
  have k04 : Kp no w w4 := kp_blk k02 (by have := k1.size; omega) (k3.trans0 k4)
  have f4 : Fro (fun _ => True) w ow w4 (ext ow w.heap.size (t + 5)) := Fro.of_kp0 (t + 5) k04
  have t4 : ext ow w.heap.size (t + 5) b1 = t + 5 := ext_new (by have := k1.size; omega)
  have h4 := h.fr f4 trivial trivial trivial trivial
  have F4 := f4.mono fun u (_ : Td t u) => trivial
  generalize ext ow w.heap.size (t + 5) = ow4 at *
  have hfd : Fro (fun _ => True) w4 ow4 w4.drew ow4 := Fro.of_kp' (Kp.drew w4 1) fun _ _ hh => hh.elim
  have S : ∀ w', (∃ ow', Fro (fun u => u = t + 5) w4 ow4 w' ow') → Blk w' b1 #[.int .u64 ((x.st + 1 : Nat) : Int), .int .i64 x.s.pg, .int .i64 x.s.lg, .int .i64 x.s.fr, .int .i64 lsn] T_master_slot := fun w' ⟨ow', f⟩ => (blk_fr hb4 t4 f rfl).1
  refine ⟨fun w' => ∃ ow', Fro (fun u => u = t + 5) w4 ow4 w' ow', ⟨ow4, hfd.mono fun _ _ => trivial⟩, _, fun w' hw => (S w' hw).at rfl rfl, by decide, _, _, _, _, _, fun w' hw => ⟨(S w' hw).at rfl rfl, (S w' hw).at rfl rfl, (S w' hw).at rfl rfl, (S w' hw).at rfl rfl, (S w' hw).at rfl rfl, trivial⟩, ?_⟩
  refine sbytes_c (st := x.st + 1) (s := x.s) (pt := lsn) (by omega) hm ⟨by omega, by omega⟩ fun w5 k5 => ⟨bvs (slotB (x.st + 1) x.s lsn), by rw [bvs_len, slotB_len], rfl, ⟨ow4, (hfd.mono fun _ _ => trivial).trans (Fro.kp0 k5 |>.mono fun _ _ => trivial)⟩, ?_⟩
  have f5 : Fro (fun _ => True) w4 ow4 w5 ow4 := hfd.trans (Fro.kp0 k5)
  have h5 := h4.fr f5 trivial trivial trivial trivial
  have et : IntKind.wrap .i64 (Int.tmod ((x.st + 1 : Nat) : Int) 2) = (((x.st + 1) % 2 : Nat) : Int) := by
    have : Int.tmod ((x.st + 1 : Nat) : Int) 2 = (((x.st + 1) % 2 : Nat) : Int) := rfl
    rw [this, wrap_i64 (by omega) (by omega)]
  rw [et]
  clear et
  rw [hp] at hK
  refine mput_c h5 ⟨by have := hs.q; omega, hs.k⟩ (slotB_len _ _ _) fun w6 ow6 h6 f6 => ⟨_, rfl, ⟨ow6, (f5.mono fun u _ => trivial).trans (f6.mono fun u (hu : u = t + 5) => ⟨by omega, by omega, by omega⟩)⟩, ?_⟩
  have F6 := (F4.trans (f5.mono fun u (_ : Td t u) => trivial)).trans f6
  refine cond_ne (fun hne => ?_) (fun hz => ?_)
  · exact fail_cF hne fun v' w7 k7 hv hfr => ⟨v', rfl, hK v' w7 ow6 (h6.kp0 k7) (F6.trans (Fro.kp0 k7 |>.mono fun u (_ : Td t u) => trivial)) hv (hfr.mono F6.kp.size)⟩
  · exact hK _ w6 ow6 h6 F6 (.inl ⟨hz, rfl⟩) (ErrF.nil _)
theorem mpoint_c {w : World} {ow : Nat → Nat} {t b : Nat} {v : Dv} {lsn : Int} {R : Ending → World → Prop} (h : DX w ow t b v) (hs : v.Sm 800000)
    (hK : ∀ e w' ow', DX w' ow' t b (pointR v lsn).2 → Fro (Td t) w ow w' ow' → ErrV w' e zP ((pointR v lsn).1 : Int) → R (.returned e) w') : GoC Try.prog F_master_Point #[.pointer (some ⟨b, 0, none⟩), .int .i64 lsn] w R :=
  mpoint_cF h hs fun e w' ow' hd f he _ => hK e w' ow' hd f he
theorem mpoint_nil {w : World} {lsn : Int} {R : Ending → World → Prop} (hK : ∀ e w', Kp no w w' → ErrV w' e zP 3 → R (.returned e) w') : GoC Try.prog F_master_Point #[.pointer none, .int .i64 lsn] w R := by
  refine S_master_Point ?_
  unfold W_master_Point
  exact cond_t rfl (fail_c (by decide) fun v' w4 k4 hv => ⟨v', rfl, hK v' w4 k4 hv⟩)

theorem sh_st {w : World} {b : Nat} {u0 u1 u2 : Value} {T : TypeId} (x : Sh) (h : Blk w b #[u0, u1, u2] T) {K : World → Prop} (hk : ∀ w', Blk w' b #[.int .i64 x.pg, .int .i64 x.lg, .int .i64 x.fr] T → Kp (fun j => j = b) w w' → K w') :
    StF w ⟨b, 0, none⟩ (.int .i64 x.pg) fun w1 => StF w1 (Addr.add ⟨b, 0, none⟩ 1) (.int .i64 x.lg) fun w2 => StF w2 (Addr.add ⟨b, 0, none⟩ 2) (.int .i64 x.fr) fun w3 => K w3 :=
  StF.at rfl h (by simp) fun w1 h1 k1 _ => StF.at rfl h1 (by simp) fun w2 h2 k2 _ => StF.at rfl h2 (by simp) fun w3 h3 k3 _ => hk w3 h3 ((k1.trans0 k2).trans0 k3)
theorem sh_rd {w : World} {b : Nat} {x : Sh} {T : TypeId} (h : Blk w b #[.int .i64 x.pg, .int .i64 x.lg, .int .i64 x.fr] T) {K : Int → Int → Int → Prop} (hk : K x.pg x.lg x.fr) :
    ∃ (n1 : Int) (n2 : Int) (n3 : Int), (w.cell? ⟨b, 0, none⟩ = some (.int .i64 n1) ∧ w.cell? (Addr.add ⟨b, 0, none⟩ 1) = some (.int .i64 n2) ∧ w.cell? (Addr.add ⟨b, 0, none⟩ 2) = some (.int .i64 n3) ∧ True) ∧ K n1 n2 n3 :=
  ⟨_, _, _, ⟨h.at rfl rfl, h.at rfl rfl, h.at rfl rfl, trivial⟩, hk⟩

/-- What Open answers. -/
def openR (v : Dv) : Sh × Int × Nat := if (mstR v).2 ≠ 0 then (⟨0, 0, 0⟩, 0, (mstR v).2) else ((mstR v).1.s, (mstR v).1.pt, 0)
set_option maxRecDepth 100000 in
theorem mopen_cF {w : World} {ow : Nat → Nat} {t b : Nat} {v : Dv} {R : Ending → World → Prop} (h : DX w ow t b v) (hs : v.Sm 1000000)
    (hK : ∀ e w', Kp no w w' → ErrV w' e zO ((openR v).2.2 : Int) → ErrF w e → R (.returned (.tuple #[(openR v).1.v, .int .i64 (openR v).2.1, e])) w') : GoC Try.prog F_master_Open #[.pointer (some ⟨b, 0, none⟩)] w R := by
  refine S_master_Open ?_
  unfold W_master_Open
  refine AlF.intro fun b1 w1 hb1e hb1 k1 _ => ?_
  have s1 := k1.size
  have lt1 := hb1.lt
  refine mmaster_c (h.kp0 k1) hs fun w2 k2 => ⟨_, _, _, _, _, _, rfl, ?_⟩
  unfold openR at hK
  generalize mstR v = m at *
  obtain ⟨x, e⟩ := m
  dsimp only at *
  refine slot_al x fun b2 w3 hb2 k3 hge => ?_
  have s2 := k2.size
  have x1 := (k2.trans0 k3).blk hb1 id
  have k03 := (k1.trans0 k2).trans0 k3
  refine cond_ne (fun hne => ?_) (fun hz => ?_)
  · rw [if_pos (by omega)] at hK
    refine fail_cF hne fun v' w4 k4 hv hfr => ⟨v', rfl, ?_⟩
    have hvl : ∀ w5, Kp (fun j => j = b1) w4 w5 → ErrV w5 v' (ByteArray.mk #[79, 112, 101, 110]) (e : Int) := fun w5 k5 => by
      rcases hv with hv | ⟨h0, b, hvv, hb⟩
      · exact .inl hv
      · refine .inr ⟨h0, b, hvv, k5.blk hb fun hh => ?_⟩
        have hh : b = b1 := hh
        subst hh
        have ha := k4.blk x1 id
        unfold Blk at ha hb
        rw [ha] at hb
        cases hb
    refine sh_st ⟨0, 0, 0⟩ (k4.blk x1 id) fun w5 hb5 k5 => sh_rd (x := ⟨0, 0, 0⟩) hb5 (hK v' w5 (kp_blk (k03.trans0 k4) (by omega) k5) (hvl w5 k5) (hfr.mono k03.size))
  · rw [if_neg (by omega)] at hK
    have kd : Kp no w3 w3.drew := Kp.drew w3 1
    have S : ∀ w', Kp (fun j => j = b1) w3 w' → Blk w' b2 #[.int .u64 (x.st : Int), .int .i64 x.s.pg, .int .i64 x.s.lg, .int .i64 x.s.fr, .int .i64 x.pt] T_master_slot := fun w' k => k.blk hb2 fun hh => by
      have hh : b2 = b1 := hh
      omega
    refine ⟨fun w' => Kp (fun j => j = b1) w3 w', kd.of_no, _, _, _, fun w' k => ⟨(S w' k).at rfl rfl, (S w' k).at rfl rfl, (S w' k).at rfl rfl, trivial⟩, _, fun w' k => (S w' k).at rfl rfl, ?_⟩
    refine sh_st x.s (kd.blk x1 id) fun w5 hb5 k5 => ⟨kd.of_no.trans0 k5, sh_rd (x := x.s) hb5 (hK _ w5 (kp_blk (k03.trans0 kd) (by omega) k5) (.inl ⟨rfl, rfl⟩) (ErrF.nil _))⟩
theorem mopen_c {w : World} {ow : Nat → Nat} {t b : Nat} {v : Dv} {R : Ending → World → Prop} (h : DX w ow t b v) (hs : v.Sm 1000000)
    (hK : ∀ e w', Kp no w w' → ErrV w' e zO ((openR v).2.2 : Int) → R (.returned (.tuple #[(openR v).1.v, .int .i64 (openR v).2.1, e])) w') : GoC Try.prog F_master_Open #[.pointer (some ⟨b, 0, none⟩)] w R :=
  mopen_cF h hs fun e w' k he _ => hK e w' k he
theorem mopen_nil {w : World} {R : Ending → World → Prop} (hK : ∀ e w', Kp no w w' → ErrV w' e zO 3 → R (.returned (.tuple #[(⟨0, 0, 0⟩ : Sh).v, .int .i64 0, e])) w') : GoC Try.prog F_master_Open #[.pointer none] w R := by
  refine S_master_Open ?_
  unfold W_master_Open
  refine AlF.intro fun b1 w1 hb1e hb1 k1 _ => ?_
  have s1 := k1.size
  have lt1 := hb1.lt
  refine mmaster_nil fun w2 k2 => ⟨_, _, _, _, _, _, rfl, ?_⟩
  refine slot_al SlV.z fun b2 w3 hb2 k3 hge => ?_
  have x1 := (k2.trans0 k3).blk hb1 id
  have k03 := (k1.trans0 k2).trans0 k3
  refine cond_t rfl (fail_c (n := 3) (by decide) fun v' w4 k4 hv => ⟨v', rfl, ?_⟩)
  have hvl : ∀ w5, Kp (fun j => j = b1) w4 w5 → ErrV w5 v' (ByteArray.mk #[79, 112, 101, 110]) 3 := fun w5 k5 => by
    rcases hv with hv | ⟨h0, b, hvv, hb⟩
    · exact .inl hv
    · refine .inr ⟨h0, b, hvv, k5.blk hb fun hh => ?_⟩
      have hh : b = b1 := hh
      subst hh
      have ha := k4.blk x1 id
      unfold Blk at ha hb
      rw [ha] at hb
      cases hb
  refine sh_st ⟨0, 0, 0⟩ (k4.blk x1 id) fun w5 hb5 k5 => sh_rd (x := ⟨0, 0, 0⟩) hb5 (hK v' w5 (kp_blk (k03.trans0 k4) (by omega) k5) (hvl w5 k5))
end Go.Proofs.Ytaehmogilimmfaa
