/- The statement MasterApart: its walk. Conditions: none. -/
import Derived.Test.YtaehmogilimmfaaKf
import Derived.Test.YtaehmogilimmfaaTg3
set_option linter.unusedVariables false
set_option linter.unusedSimpArgs false
namespace Go.Proofs.Ytaehmogilimmfaa
open Go Go.RowKit

/-- A disk that neither is down nor gives up, nothing cached. -/
structure Calm (v : Dv) (c : Int) : Prop where
  d : v.down = false
  s : v.step = 0
  q : v.q = []
  c : v.calls = c
theorem sync1 {i : Int} {b img : List UInt8} : syncL [(i, b)] img = ovr img (i.toNat * 512) b := rfl
theorem Calm.put {v : Dv} {c : Int} {i : Int} {b : List UInt8} (h : Calm v c) (hc : 0 ≤ c ∧ c ≤ 1000000) (hi : v.there i) (hb : b.length = 512) : (v.put i b).1 = 0 ∧ Calm (v.put i b).2 (c + 2) ∧ (v.put i b).2.img = ovr v.img (i.toNat * 512) b := by
  have e1 : v.write i b = (0, v.bump.add i b) := by
    unfold Dv.write
    rw [h.d, if_neg (by simp), if_neg (by simpa using hi), if_neg (by simpa using hb), h.s, if_neg (by omega)]
  have e2 : (v.bump.add i b).sync = (0, (v.bump.add i b).bump.synced) := by
    unfold Dv.sync
    have d1 : (v.bump.add i b).down = false := h.d
    have s1 : (v.bump.add i b).step = 0 := by
      show (if v.step = 0 then (0 : Int) else v.step - 1) = 0
      rw [if_pos h.s]
    rw [d1, if_neg (by simp), s1, if_neg (by omega)]
  unfold Dv.put
  rw [e1, if_neg (by simp), e2]
  refine ⟨rfl, ⟨h.d, ?_, rfl, ?_⟩, ?_⟩
  · show (if (if v.step = 0 then (0 : Int) else v.step - 1) = 0 then (0 : Int) else _) = 0
    rw [h.s]
    rfl
  · show IntKind.wrap .i64 (IntKind.wrap .i64 (v.calls + 1) + 1) = c + 2
    rw [h.c, wrap_i64 (x := c + 1) (by omega) (by omega), wrap_i64 (by omega) (by omega)]
    omega
  · show syncL (v.q ++ [(i, b)]) v.img = _
    rw [h.q]
    rfl
theorem ovr_drop {img b : List UInt8} {k m : Nat} (h : k + b.length ≤ m) (hl : k + b.length ≤ img.length) : (ovr img k b).drop m = img.drop m := by
  unfold ovr
  rw [List.drop_append, List.drop_eq_nil_of_le (by simp; omega), List.nil_append, List.drop_drop]
  congr 1
  simp
  omega
theorem put_drop {v : Dv} {c : Int} {i : Int} {b : List UInt8} (h : Calm v c) (hok : v.Ok) (hc : 0 ≤ c ∧ c ≤ 1000000) (h0 : 0 ≤ i) (h1 : i ≤ 1) (hn : 2 ≤ v.n) (hb : b.length = 512) :
    (v.put i b).1 = 0 ∧ Calm (v.put i b).2 (c + 2) ∧ (v.put i b).2.img.drop 1024 = v.img.drop 1024 ∧ (v.put i b).2.img.length = v.img.length := by
  have hlen := hok.len
  obtain ⟨a, b', e⟩ := h.put hc (i := i) (b := b) ⟨h0, by omega⟩ hb
  refine ⟨a, b', ?_, ?_⟩
  · rw [e]
    exact ovr_drop (by omega) (by omega)
  · rw [e]
    exact ovr_len (by omega)
theorem n_len {v v' : Dv} (h : v'.img.length = v.img.length) : v'.n = v.n := by unfold Dv.n; rw [h]
theorem put_Ok {v : Dv} (h : v.Ok) (i : Int) (b : List UInt8) : (v.put i b).2.Ok := by
  unfold Dv.put
  split
  · exact h.write i b
  · exact (h.write i b).sync
theorem format_drop {v : Dv} {c : Int} {s : Sh} (h : Calm v c) (hok : v.Ok) (hc : 0 ≤ c ∧ c ≤ 900000) (hs : s.may) (hn : s.need = (v.n : Int)) :
    (formatR v s).1 = 0 ∧ Calm (formatR v s).2 (c + 4) ∧ (formatR v s).2.img.drop 1024 = v.img.drop 1024 ∧ (formatR v s).2.img.length = v.img.length := by
  have hs' := hs
  unfold Sh.may at hs'
  have hn' := hn
  unfold Sh.need at hn'
  obtain ⟨a1, b1, c1, d1⟩ := put_drop h hok (i := 0) (b := List.replicate 512 0) (by omega) (by omega) (by omega) (by omega) (by rw [List.length_replicate])
  have ok1 := put_Ok hok 0 (List.replicate 512 0)
  unfold formatR
  rw [if_neg (fun hh => hh ⟨hs, hn⟩), if_neg (by rw [h.d]; simp), if_neg (by omega)]
  obtain ⟨a2, b2, c2, d2⟩ := put_drop b1 ok1 (i := 1) (b := slotB 1 s 0) (by omega) (by omega) (by omega) (by rw [n_len d1]; omega) (slotB_len _ _ _)
  refine ⟨a2, ?_, by rw [c2, c1], by rw [d2, d1]⟩
  rw [show c + 4 = c + 2 + 2 by omega]
  exact b2
theorem point_drop {v : Dv} {c : Int} {n : Int} (h : Calm v c) (hok : v.Ok) (hc : 0 ≤ c ∧ c ≤ 900000) (hn : 2 ≤ v.n) :
    ∃ c', Calm (pointR v n).2 c' ∧ 0 ≤ c' ∧ c' ≤ c + 2 ∧ (pointR v n).2.img.drop 1024 = v.img.drop 1024 ∧ (pointR v n).2.img.length = v.img.length := by
  unfold pointR
  repeat' split
  · exact ⟨c, h, hc.1, by omega, rfl, rfl⟩
  · exact ⟨c, h, hc.1, by omega, rfl, rfl⟩
  · exact ⟨c, h, hc.1, by omega, rfl, rfl⟩
  · obtain ⟨_, b1, c1, d1⟩ := put_drop h hok (i := ((((mstR v).1.st + 1) % 2 : Nat) : Int)) (b := slotB ((mstR v).1.st + 1) (mstR v).1.s n) (by omega) (by omega) (by omega) hn (slotB_len _ _ _)
    exact ⟨c + 2, b1, by omega, by omega, c1, d1⟩
theorem new_calm (n : Nat) : Calm (Dv.new n) 0 := ⟨rfl, rfl, rfl, rfl⟩
theorem new_n (n : Nat) : (Dv.new n).n = n := by
  unfold Dv.n Dv.new
  rw [List.length_replicate]
  omega

/-- A disk of that shape, no points. -/
theorem formatted0_c {w : World} {s : Sh} {R : Ending → World → Prop} (hs : s.may) (t : Nat) (ht : 10 ≤ t)
    (h : ∀ b v w' ow', DX w' ow' t b v → Calm v 4 → (v.n : Int) = s.need → v.Sm 10 → Old w w' ow' → R (.returned (.tuple #[.pointer (some ⟨b, 0, none⟩), .int .i64 0, .bool true])) w') : GoC Try.prog F_law04_formatted #[s.v, .slice none 0 0] w R := by
  refine S_law04_formatted ?_
  unfold W_law04_formatted
  have hs' := hs
  unfold Sh.may at hs'
  have o0 : Old w w fun _ => 0 := ⟨Kp.refl _ _, fun _ _ => rfl⟩
  refine AlF.intro fun b1 w1 hb1e hb1 k1 _ => ?_
  refine sh_rd (x := s) hb1 (need_c (s := s) fun w2 k2 => ⟨_, _, rfl, ?_⟩)
  have x2 := k2.blk hb1 id
  have f2 : Fro (fun _ => True) w (fun _ => 0) w2 (ext (fun _ => 0) w.heap.size 3) := Fro.of_kp0 3 (k1.trans0 k2)
  have t2 : ext (fun _ => 0) w.heap.size 3 b1 = 3 := ext_new (by omega)
  have o2 := o0.fr f2 trivial
  generalize ext (fun _ => 0) w.heap.size 3 = ow2 at *
  unfold needR
  rw [if_pos hs]
  have en : s.need = ((s.need.toNat : Nat) : Int) := by unfold Sh.need; omega
  dsimp only
  have hge : 13 ≤ s.need.toNat ∧ s.need.toNat ≤ 5000 := by unfold Sh.need; omega
  generalize hn : s.need.toNat = n at *
  rw [en]
  refine new_c (ow := ow2) (n := n) (by omega) (by omega) t fun b w3 ow3 h3 k3 hz hge3 => ⟨_, _, rfl, num_c ⟨_, rfl, cond_f rfl (num_c ⟨_, rfl, cond_f rfl (cond_f rfl ?_)⟩)⟩⟩
  have f3 : Fro (fun _ => True) w2 ow2 w3 ow3 := Fro.new k3 hz
  obtain ⟨x3, t3⟩ := blk_fr x2 t2 f3 trivial
  have o3 := o2.fr f3 trivial
  have hN := new_n n
  obtain ⟨a1, c1, d1, l1⟩ := format_drop (s := s) (new_calm n) h3.ok (by omega) hs (by rw [hN]; exact en)
  refine sh_rd (x := s) x3 (mformat_c (s := s) h3 ((new_sm n).mono (by omega)) fun e w4 ow4 h4 f4 he => ⟨_, rfl, ?_⟩)
  rw [a1] at he
  have he := err0 he
  subst he
  have o4 := o3.fr f4 ⟨by omega, by omega, by omega⟩
  refine .inl ⟨rfl, cond_f rfl ?_⟩
  refine loopN (fun st w' => st.1 = 0 ∧ st.2.1 = 0 ∧ w' = w4) (fun _ _ => 0) ⟨rfl, rfl, rfl⟩ ?_
  rintro ⟨at_, k, u⟩ w' ⟨h1, h2, rfl⟩ _
  dsimp only at h1 h2 ⊢
  subst h1 h2
  refine cond_d (fun hlt => by omega) (fun _ => ?_)
  refine h b _ w' ow4 h4 ?_ ?_ ((formatR_sm (new_sm n)).mono (by omega)) o4
  · have := c1
    rwa [Int.zero_add] at this
  · rw [n_len l1, hN]
    exact en.symm

theorem write_l {w : World} {ow : Nat → Nat} {t b : Nat} {v : Dv} {i : Int} {a : Option Addr} {l c : Nat} {bs : List UInt8} {R : Ending → World → Prop} (h : DX w ow t b v) (hr : Bs w ow t a bs) (hl : bs.length = l) (hq : v.q.length ≤ 999999) (hln : v.keep.length * 8 ≤ 140737488355328)
    (hK : ∀ w' ow', DX w' ow' t b (v.write i bs).2 → Fro (Td t) w ow w' ow' → R (.returned (.int .i64 ((v.write i bs).1 : Int))) w') :
    GoC Try.prog F_sectors_Device_Write #[.pointer (some ⟨b, 0, none⟩), .int .i64 i, .slice a l c] w R := by
  subst hl
  exact write_c h hr hq hln hK
theorem u8w (n : Int) : ∃ x : UInt8, Value.int .u8 (IntKind.wrap .u8 n) = bv x := by
  have h2 : IntKind.wrap .u8 n = n % 256 := by simp [IntKind.wrap, IntKind.signed, IntKind.bits]
  have h0 := Int.emod_nonneg n (by decide : (256 : Int) ≠ 0)
  have h1 := Int.emod_lt_of_pos n (by decide : (0 : Int) < 256)
  refine ⟨UInt8.ofNat (n % 256).toNat, ?_⟩
  unfold bv
  congr 1
  rw [h2, UInt8.toNat_ofNat']
  have : (n % 256).toNat % 2 ^ 8 = (n % 256).toNat := Nat.mod_eq_of_lt (by omega)
  rw [this]
  omega
theorem rd_off {w : World} {b k : Nat} {l : List UInt8} (h : Rd w (some ⟨b, 0, none⟩) (bvs l)) : Rd w (some ⟨b, k, none⟩) (bvs (l.drop k)) := fun i v hv => by
  have : (bvs l)[k + i]? = some v := by
    unfold bvs at hv ⊢
    rw [List.getElem?_map, List.getElem?_drop] at hv
    rw [List.getElem?_map]
    exact hv
  obtain ⟨b', o, ha, hc⟩ := h (k + i) v this
  cases ha
  rw [Nat.zero_add] at hc
  exact ⟨b, k, rfl, hc⟩
/-- The end of an image, as a string. -/
theorem tail_c {w : World} {a : Option Addr} {l c : Nat} {img : List UInt8} {K : Value → World → Prop} (h : Sl w T_uint8 1 a l c (bvs img)) (hl : img.length = l) (h1 : 1024 < l) (hK : ∀ z : ByteArray, z.toList = img.drop 1024 → K (.string z) w) :
    RunF Try.prog (convert T_s_uint8 T_string (.slice (subA a l (Int.toNat 1024) 1) (l - Int.toNat 1024) (l - Int.toNat 1024))) w K := by
  obtain ⟨b, cur, ha, _⟩ := h.addr (by omega)
  subst ha
  have e : subA (some ⟨b, 0, none⟩) l (Int.toNat 1024) 1 = some ⟨b, 1024, none⟩ := subA_lt (o := 1024) h1
  rw [e]
  exact convert_bytes (e := T_uint8) (by kernel_rfl) (by kernel_rfl) (by kernel_rfl) (rd_off h.rd) (by rw [List.length_drop, hl]; rfl) (fun hh => by cases hh) fun z hz => hK z hz

def iV (n : Int) : List Value := [.int .i64 n]
theorem iV_l (n : Int) : (iV n).length = 1 := rfl
theorem ints_arg {W : World} {v : Value} (h : ArgW Try.prog W T_s_int v) : ∃ a l c L, v = .slice a l c ∧ (L : List Int).length = l ∧ Rd W a (L.map (Value.int .i64)) := by
  obtain ⟨a, l, c, rfl, hc⟩ := h.arg.slice (e := T_int) (by kernel_rfl)
  obtain ⟨hl, hm, h0, css, h1, h2⟩ := hc.cells (e := T_int) (s := 1) (by kernel_rfl) (by kernel_rfl) (by omega)
  have each : ∀ i, i < l → ∃ x : Int, css i = [.int .i64 x] := fun i hi => by
    have hc := (h1 i hi).2
    have hsl := (h1 i hi).1
    generalize css i = cs at *
    match cs, hsl with
    | [x0], _ =>
      obtain ⟨n0, e0, _⟩ := hc.int (k := .i64) (by kernel_rfl)
      cases e0
      exact ⟨n0, rfl⟩
  obtain ⟨f, hf⟩ := Deep.choose_lt (α := Int) (p := fun i x => css i = [.int .i64 x]) each
  refine ⟨a, l, c, (List.range l).map f, rfl, by simp, fun i v hv => ?_⟩
  rw [List.getElem?_map] at hv
  by_cases hi : i < l
  · have e : ((List.range l).map f)[i]? = some (f i) := by simp [hi]
    rw [e] at hv
    simp at hv
    subst hv
    obtain ⟨b, o, ha, hcell⟩ := h2 i hi 0 (.int .i64 (f i)) (by rw [hf i hi]; rfl)
    exact ⟨b, o, ha, by rw [Nat.mul_one, Nat.add_zero] at hcell; exact hcell⟩
  · have e : ((List.range l).map f)[i]? = none := by simp; omega
    rw [e] at hv
    cases hv

set_option maxRecDepth 100000 in
set_option maxHeartbeats 2000000 in
theorem masterApart_c {w : World} {s : Sh} {a : Option Addr} {l c : Nat} {L : List Int} {fill : Int} {R : Ending → World → Prop} (hr : Rd w a (L.map (Value.int .i64))) (hl : L.length = l)
    (h : ∀ w', Kp no w w' → R (.returned (.bool true)) w') : GoC Try.prog F_law04_MasterApart #[s.v, .slice a l c, .int .u8 fill] w R := by
  refine S_law04_MasterApart ?_
  unfold W_law04_MasterApart
  refine AlF.intro fun b1 w1 hb1e hb1 k1 _ => ?_
  refine sh_rd (x := s) hb1 (small_c (s := s) fun w2 k2 => ⟨_, _, _, rfl, AlF.intro fun b2 w3 hb3e hb3 k3 _ => sh_st (smallS s) hb3 fun w4 hb4 k4 => ?_⟩)
  have hm := small_may s
  have hm' := hm
  unfold Sh.may at hm'
  have hneed : 13 ≤ (smallS s).need ∧ (smallS s).need ≤ 5000 := by unfold Sh.need; omega
  generalize smallS s = S at *
  have k04 : Kp no w w4 := (k1.trans0 k2).trans0 (kp_blk k3 (by omega) k4)
  refine sh_rd (x := S) hb4 (formatted0_c (s := S) hm 100 (by omega) fun b v w5 ow5 h5 c5 n5 s5 o5 => ⟨_, _, _, rfl, cond_f rfl ?_⟩)
  refine awake_c fun w6 k6 => ⟨_, rfl, cond_f rfl ?_⟩
  have h6 := h5.kp0 k6
  have o6 : Old w4 w6 ow5 := o5.fr (Fro.kp0 k6) trivial
  have hvn : 13 ≤ v.n ∧ v.n ≤ 5000 := by omega
  refine loopN (fun st w' => ∃ k : Nat, 2 + k ≤ v.n ∧ st.1 = 2 + (k : Int) ∧ ∃ v' ow', DX w' ow' 100 b v' ∧ v'.down = false ∧ v'.step = 0 ∧ v'.calls = 4 + (k : Int) ∧ v'.q.length = k ∧ v'.img = v.img ∧ v'.keep = v.keep ∧ Old w4 w' ow') (fun st _ => v.n - st.1.toNat)
    ⟨0, by omega, rfl, v, ow5, h6, c5.d, c5.s, c5.c, by rw [c5.q]; rfl, rfl, rfl, o6⟩ ?_
  rintro ⟨k0, u⟩ w7 ⟨k, hk, hk0, v', ow7, h7, d7, s7, c7, q7, i7, kp7, o7⟩ _
  dsimp only at hk0 ⊢
  subst hk0
  have n7 : v'.n = v.n := by unfold Dv.n; rw [i7]
  refine size_c h7 ⟨_, rfl, ?_⟩
  refine cond_d (fun hlt => ?_) (fun hge => ?_)
  · -- a sector is written
    refine make_u8 (n := 512) (by omega) fun b3 w8 cur hb8 hcur k8 hb8e => ⟨_, _, _, rfl, ?_⟩
    have f8 : Fro (fun _ => True) w7 ow7 w8 (ext ow7 w7.heap.size 105) := Fro.of_kp0 105 k8
    have t8 : ext ow7 w7.heap.size 105 b3 = 105 := ext_new (by omega)
    have h8 := h7.fr f8 trivial trivial trivial trivial
    have o8 := o7.fr f8 trivial
    generalize ext ow7 w7.heap.size 105 = ow8 at *
    refine loopN (fun st w' => ∃ j : Nat, j ≤ 512 ∧ st.1 = (j : Int) ∧ ∃ (cs : Array Value) (ds : List UInt8), Blk w' b3 cs T_uint8 ∧ cs.size = 512 ∧ Has cs (bvs ds) ∧ ds.length = 512 ∧ Fro (fun u => u ≠ 105) w8 ow8 w' ow8) (fun st _ => 512 - st.1.toNat)
      ⟨0, by omega, rfl, cur, List.replicate 512 0, hb8, by rw [← Array.length_toList, hcur, bvs_len, List.length_replicate], fun i x hx => by rw [← Array.getElem?_toList, hcur]; exact hx, by rw [List.length_replicate], fro_r _ _⟩ ?_
    rintro ⟨j0, u⟩ w9 ⟨j, hj, hj0, cs, ds, hb9, z9, c9, l9, f9⟩ _
    dsimp only at hj0 ⊢
    subst hj0
    refine cond_d (fun hjl => ?_) (fun hjg => ?_)
    · refine ⟨by omega, by omega, _, rfl, ?_⟩
      obtain ⟨x, hx⟩ := u8w (fill + IntKind.wrap .u8 (IntKind.wrap .i64 (IntKind.wrap .i64 ((2 + (k : Int)) * 7) + (j : Int))))
      rw [hx]
      clear hx
      refine StF.at (i := j) (by rw [Int.toNat_natCast, add_at, Nat.zero_add]) hb9 (by omega) fun w10 hb10 k10 _ => ?_
      have wj : IntKind.wrap .i64 ((j : Int) + 1) = ((j + 1 : Nat) : Int) := wk4 (n := 512) (by omega) (by omega)
      rw [wj]
      clear wj
      exact ⟨⟨j + 1, by omega, rfl, _, ds.set j x, hb10, by rw [Array.size_setIfInBounds]; exact z9, has_set c9 (by omega), by rw [List.length_set]; exact l9, f9.trans (Fro.of_kp' k10 fun b' _ hb' hne => hne (by rw [hb']; exact t8))⟩, by simp only [Int.toNat_natCast]; omega⟩
    have h9 := h8.fr f9 (by omega) (by omega) (by omega) (by omega)
    have o9 := o8.fr f9 (by omega)
    have hBs : Bs w9 ow8 100 (some ⟨b3, 0, none⟩) ds := ⟨rdT_old (w0 := w9) hb9 c9 (by rw [t8]; exact ⟨by omega, by omega, by omega⟩), by omega, fun hh => by cases hh⟩
    have ew : v'.write (2 + (k : Int)) ds = (0, v'.bump.add (2 + (k : Int)) ds) := by
      have hth : v'.there (2 + (k : Int)) := ⟨by omega, by omega⟩
      unfold Dv.write
      rw [d7, if_neg (by simp), if_neg (by simpa using hth), if_neg (by simpa using l9), s7, if_neg (by omega)]
    refine write_l h9 hBs l9 (by omega) (by rw [kp7]; exact s5.k) fun w10 ow10 h10 f10 => ⟨_, rfl, ?_⟩
    rw [ew] at h10 ⊢
    refine num_c ⟨_, rfl, cond_f rfl ?_⟩
    have wk : IntKind.wrap .i64 (2 + (k : Int) + 1) = 2 + ((k + 1 : Nat) : Int) := by rw [wrap_i64 (by omega) (by omega)]; omega
    rw [wk]
    clear wk
    refine ⟨⟨k + 1, by omega, rfl, _, ow10, h10, d7, ?_, ?_, ?_, i7, kp7, o9.fr f10 ⟨by omega, by omega, by omega⟩⟩, by omega⟩
    · show (if v'.step = 0 then (0 : Int) else v'.step - 1) = 0
      rw [if_pos s7]
    · show IntKind.wrap .i64 (v'.calls + 1) = _
      rw [c7, wrap_i64 (by omega) (by omega)]
      omega
    · show (v'.q ++ [_]).length = k + 1
      rw [List.length_append, q7]
      rfl
  -- all is written
  have es : v'.sync = (0, v'.bump.synced) := by
    unfold Dv.sync
    rw [d7, if_neg (by simp), s7, if_neg (by omega)]
  refine sync_c h7 (by omega) (by rw [kp7]; exact s5.k) fun w8 ow8 h8 f8 => ⟨_, rfl, ?_⟩
  rw [es] at h8 ⊢
  refine num_c ⟨_, rfl, cond_f rfl ?_⟩
  have o8 := o7.fr f8 ⟨by omega, by omega, by omega⟩
  have c8 : Calm v'.bump.synced (4 + (k : Int) + 1) := by
    refine ⟨d7, ?_, rfl, ?_⟩
    · show (if v'.step = 0 then (0 : Int) else v'.step - 1) = 0
      rw [if_pos s7]
    · show IntKind.wrap .i64 (v'.calls + 1) = _
      rw [c7, wrap_i64 (by omega) (by omega)]
  have sm8 : v'.bump.synced.Sm 0 := ⟨Nat.le_refl _, by show v'.keep.length * 8 ≤ _; rw [kp7]; exact s5.k⟩
  have l8 : v'.bump.synced.img.length = v.img.length := by
    show (syncL v'.q v'.img).length = _
    rw [syncL_len v.n v'.q v'.img (by rw [i7]; exact h5.ok.len) (fun p hp => by have := h7.ok.q p hp; rw [n7] at this; exact this), h5.ok.len]
  have n8 : v'.bump.synced.n = v.n := n_len l8
  generalize v'.bump.synced = v8 at *
  generalize hcc : 4 + (k : Int) + 1 = cc at *
  have hlen8 : v8.img.length = v8.n * 512 := h8.ok.len
  have hbig : 1024 < v8.img.length := by omega
  refine image_c h8 fun a9 c9 w9 s9 k9 f9 => ⟨_, _, _, rfl, trivial, ⟨by decide, by show (1024 : Int) ≤ ((v8.img.length : Nat) : Int); omega⟩, ?_⟩
  refine tail_c s9 rfl hbig fun z1 hz1 => ⟨_, rfl, ?_⟩
  have h9 := h8.kp0 k9
  have o9 : Old w4 w9 ow8 := o8.fr (Fro.kp0 k9) trivial
  have fin : ∀ (v3 : Dv) (c3 : Int) (w3 : World) (ow3 : Nat → Nat), DX w3 ow3 100 b v3 → Calm v3 c3 → v3.img.drop 1024 = v8.img.drop 1024 → v3.img.length = v8.img.length → Old w4 w3 ow3 →
      CallF Try.prog F_sectors_Device_Image #[(.pointer (some ⟨b, 0, none⟩))] w3 (fun r17 w26 => ∃ (a4 : Option Addr) (l4 c4 : Nat), r17 = (.slice a4 l4 c4) ∧ (SlB c4 l4 (some (1024 : Int)) none (RunF Try.prog (convert T_s_uint8 T_string (.slice (subA a4 c4 (Int.toNat (1024 : Int)) 1) (l4 - (Int.toNat (1024 : Int))) (c4 - (Int.toNat (1024 : Int))))) w26 fun r18 w27 => ∃ (z2 : ByteArray), r18 = (.string z2) ∧ (cond (ByteArray.toList z2 == ByteArray.toList z1) (CallF Try.prog F_sectors_Device_Cache #[(.pointer (some ⟨b, 0, none⟩))] w27 (fun r19 w28 => ∃ (a5 : Option Addr) (l5 c5 : Nat), r19 = (.slice a5 l5 c5) ∧ (R (.returned (.bool (((l5 : Nat) : Int) == (0 : Int)))) w28)) (PanF R)) (R (.returned (.bool false)) w27))))) (PanF R) := fun v3 c3 w3 ow3 h3 cm hdrop hlen o3 => by
    refine image_c h3 fun a4 c4 wa sa ka fa => ⟨_, _, _, rfl, trivial, ⟨by decide, by show (1024 : Int) ≤ ((v3.img.length : Nat) : Int); omega⟩, ?_⟩
    refine tail_c sa rfl (by omega) fun z2 hz2 => ⟨_, rfl, cond_t (by rw [hz1, hz2, hdrop]; exact beq_self_eq_true _) ?_⟩
    refine cache_c (h3.kp0 ka) (by rw [cm.q]; exact Nat.zero_le _) fun a5 c5 X wb hca _ => ⟨_, _, _, rfl, ?_⟩
    have e0 : (((v3.q.length : Nat) : Int) == (0 : Int)) = true := by rw [cm.q]; rfl
    rw [e0]
    exact h wb (k04.trans0 ((o3.kp.trans0 ka).trans0 hca.k))
  refine calls_c h9 ⟨_, rfl, ?_⟩
  have hcc2 : 0 ≤ cc ∧ cc ≤ 10000 := by omega
  obtain ⟨a1, c1, d1, l1⟩ := format_drop (s := S) c8 h8.ok (by omega) hm (by rw [n8]; exact n5.symm)
  refine sh_rd (x := S) (o9.kp.blk hb4 id) (mformat_c (s := S) h9 (sm8.mono (by omega)) fun e w10 ow10 h10 f10 he => ⟨_, rfl, ?_⟩)
  rw [a1] at he
  have he := err0 he
  subst he
  have o10 := o9.fr f10 ⟨by omega, by omega, by omega⟩
  have sm10 := formatR_sm (s := S) sm8
  refine .inl ⟨rfl, cond_f rfl (calls_c h10 ⟨_, rfl, ?_⟩)⟩
  have ec : IntKind.wrap .i64 (v8.calls + 4) = cc + 4 := by rw [c8.c, wrap_i64 (by omega) (by omega)]
  rw [ec, c1.c]
  clear ec
  refine cond_ne (fun hh => absurd rfl hh) (fun _ => ?_)
  generalize (formatR v8 S).2 = v10 at *
  refine loopN (fun st w' => ∃ j : Nat, j ≤ l ∧ j ≤ 20 ∧ st.1 = (j : Int) ∧ ∃ v3 c3 ow', DX w' ow' 100 b v3 ∧ Calm v3 c3 ∧ 0 ≤ c3 ∧ c3 ≤ 20000 + 2 * (j : Int) ∧ v3.img.drop 1024 = v8.img.drop 1024 ∧ v3.img.length = v8.img.length ∧ v3.Sm (10 + j) ∧ Old w4 w' ow') (fun st _ => l - st.1.toNat)
    ⟨0, by omega, by omega, rfl, v10, cc + 4, ow10, h10, c1, by omega, by omega, d1, l1, sm10.mono (by omega), o10⟩ ?_
  rintro ⟨j0, u⟩ w11 ⟨j, hj, hj20, hj0, v3, c3, ow11, h11, cm, hc0, hc1, hd3, hl3, sm3, o11⟩ _
  dsimp only at hj0 ⊢
  subst hj0
  refine cond_d (fun hjl => ?_) (fun _ => fin v3 c3 w11 ow11 h11 cm hd3 hl3 o11)
  refine cond_d (fun hj2 => ?_) (fun _ => fin v3 c3 w11 ow11 h11 cm hd3 hl3 o11)
  have hjL : j < L.length := by omega
  obtain ⟨ba, oa, ha, hca⟩ := (hr.kp0 (k04.trans0 o11.kp)) j (.int .i64 L[j]) (by rw [List.getElem?_map, List.getElem?_eq_getElem hjL]; rfl)
  refine ⟨by omega, by omega, _, ha, L[j], by rw [Int.toNat_natCast, add_at]; exact hca, ?_⟩
  have hn3 : v3.n = v8.n := n_len hl3
  obtain ⟨c4, cm4, hc4, hc5, hd4, hl4⟩ := point_drop (n := L[j]) cm h11.ok (by omega) (by omega)
  refine mpoint_c h11 (sm3.mono (by omega)) fun e w12 ow12 h12 f12 he => ⟨_, rfl, ?_⟩
  have sm4 := pointR_sm (n := L[j]) sm3
  refine mopen_c h12 (sm4.mono (by omega)) fun e2 w13 k13 he2 => ⟨_, _, _, _, _, rfl, ?_⟩
  have wj : IntKind.wrap .i64 ((j : Int) + 1) = ((j + 1 : Nat) : Int) := wk4 (n := 20) (by omega) (by omega)
  rw [wj]
  clear wj
  exact ⟨⟨j + 1, by omega, by omega, rfl, _, c4, ow12, h12.kp0 k13, cm4, hc4, by omega, by rw [hd4, hd3], by rw [hl4, hl3], sm4, (o11.fr f12 ⟨by omega, by omega, by omega⟩).fr (Fro.kp0 k13) trivial⟩, by simp only [Int.toNat_natCast]; omega⟩

theorem masterApart_walk {W : World} {v0 v1 v2 : Value} (h0 : ArgW Try.prog W T_api_Shape v0) (h1 : ArgW Try.prog W T_s_int v1) (h2 : ArgW Try.prog W T_uint8 v2) : GoC Try.prog F_law04_MasterApart #[v0, v1, v2] W fun e W' => e = .returned (.bool true) ∧ Kp no W W' := by
  obtain ⟨s, rfl⟩ := sh_arg h0
  obtain ⟨a, l, c, L, rfl, hl, hr⟩ := ints_arg h1
  obtain ⟨n, rfl, _⟩ := h2.arg.int (k := .u8) (by kernel_rfl)
  exact masterApart_c hr hl fun w' k => ⟨rfl, k⟩
end Go.Proofs.Ytaehmogilimmfaa
