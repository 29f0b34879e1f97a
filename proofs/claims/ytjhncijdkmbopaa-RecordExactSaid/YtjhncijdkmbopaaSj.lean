/- The statements' encodes of layer 5. Conditions: lists of at most 100. -/
import Derived.Test.YtjhncijdkmbopaaSi
set_option linter.unusedVariables false
set_option linter.unusedSimpArgs false
namespace Go.Proofs.Ytjhncijdkmbopaa
open Go Go.RowKit

/-- A record's bytes, or none. -/
def encR (r : RV) : List UInt8 := if chkN r = 0 then encB r else []
theorem fresh_none (w : World) : Fresh w none := fun k hk => (is_none hk).elim
theorem encode_any {w : World} {r : RV} {m : Mm} {R : Ending → World → Prop} (hi : LiIn w m r.live r.dirty) (h64 : r.w64)
    (h : ∀ a c w', Kp no w w' → Sl w' T_uint8 1 a (encR r).length c (bvs (encR r)) → Fresh w a → R (.returned (.tuple #[.slice a (encR r).length c, .int .i64 (chkN r : Int)])) w') : GoC Try.prog F_record_Encode #[.agg (r.ca m)] w R := by
  refine encode_c hi h64 (fun hn w' k => ?_) (fun h0 a c w' k hs hf => ?_)
  · have e : encR r = [] := if_neg hn
    rw [e] at h
    exact h none 0 w' k (Sl.nil _ _ _) (fresh_none _)
  · have e : encR r = encB r := if_pos h0
    rw [e, h0] at h
    exact h a c w' k hs hf
theorem rencode_any {w : World} {r : RV} {m : Mm} {R : Ending → World → Prop} (hi : LiIn w m r.live r.dirty) (h64 : r.w64)
    (h : ∀ a c w', Kp no w w' → Sl w' T_uint8 1 a (encR r).length c (bvs (encR r)) → Fresh w a → R (.returned (.tuple #[.slice a (encR r).length c, .int .i64 (chkN r : Int)])) w') : GoC Try.prog F_ref05_Encode #[.agg (r.ca m)] w R := by
  refine rencode_c hi h64 (fun hn w' k => ?_) (fun h0 a c w' k hs hf => ?_)
  · have e : encR r = [] := if_neg hn
    rw [e] at h
    exact h none 0 w' k (Sl.nil _ _ _) (fresh_none _)
  · have e : encR r = encB r := if_pos h0
    rw [e, h0] at h
    exact h a c w' k hs hf
theorem encR_len {r : RV} (h64 : r.w64) : (encR r).length ≤ 502 := by
  unfold encR
  split
  · rename_i h
    exact (enc_len h h64).2
  · simp

/-- A record is read in a class of worlds. -/
theorem rec_rdS {S : World → Prop} {b : Nat} {r : RV} {m : Mm} {T : TypeId} (h : ∀ w, S w → Blk w b (r.ca m) T) {K : Int → Int → Int → Int → Int → Int → Int → Int → Int → Int → Int → Int → Int → Int → Option Addr → Nat → Nat → Option Addr → Nat → Nat → Int → Prop}
    (hk : K r.lsn r.kind r.tx r.prev r.wp r.wi r.sp r.si r.delta r.id r.grp r.lo r.hi r.val m.la m.ll m.lc m.da m.dl m.dc r.next) :
    ∃ (n0 n1 n2 n3 n4 n5 n6 n7 n8 n9 n10 n11 n12 n13 : Int) (a : Option Addr) (l c : Nat) (a' : Option Addr) (l' c' : Nat) (n14 : Int), (∀ w, S w → w.cell? ⟨b, 0, none⟩ = some (.int .i64 n0) ∧ w.cell? (Addr.add ⟨b, 0, none⟩ 1) = some (.int .i64 n1) ∧ w.cell? (Addr.add ⟨b, 0, none⟩ 2) = some (.int .i64 n2) ∧ w.cell? (Addr.add ⟨b, 0, none⟩ 3) = some (.int .i64 n3) ∧ w.cell? (Addr.add ⟨b, 0, none⟩ 4) = some (.int .i64 n4) ∧ w.cell? (Addr.add ⟨b, 0, none⟩ 5) = some (.int .i64 n5) ∧ w.cell? (Addr.add ⟨b, 0, none⟩ 6) = some (.int .i64 n6) ∧ w.cell? (Addr.add ⟨b, 0, none⟩ 7) = some (.int .i64 n7) ∧ w.cell? (Addr.add ⟨b, 0, none⟩ 8) = some (.int .i64 n8) ∧ w.cell? (Addr.add ⟨b, 0, none⟩ 9) = some (.int .i64 n9) ∧ w.cell? (Addr.add ⟨b, 0, none⟩ 10) = some (.int .i64 n10) ∧ w.cell? (Addr.add ⟨b, 0, none⟩ 11) = some (.int .i64 n11) ∧ w.cell? (Addr.add ⟨b, 0, none⟩ 12) = some (.int .i64 n12) ∧ w.cell? (Addr.add ⟨b, 0, none⟩ 13) = some (.int .i64 n13) ∧ w.cell? (Addr.add ⟨b, 0, none⟩ 14) = some (.slice a l c) ∧ w.cell? (Addr.add ⟨b, 0, none⟩ 15) = some (.slice a' l' c') ∧ w.cell? (Addr.add ⟨b, 0, none⟩ 16) = some (.int .i64 n14) ∧ True) ∧
      K n0 n1 n2 n3 n4 n5 n6 n7 n8 n9 n10 n11 n12 n13 a l c a' l' c' n14 :=
  ⟨_, _, _, _, _, _, _, _, _, _, _, _, _, _, _, _, _, _, _, _, _, fun w hw => ⟨(h w hw).at rfl rfl, (h w hw).at rfl rfl, (h w hw).at rfl rfl, (h w hw).at rfl rfl, (h w hw).at rfl rfl, (h w hw).at rfl rfl, (h w hw).at rfl rfl, (h w hw).at rfl rfl, (h w hw).at rfl rfl, (h w hw).at rfl rfl, (h w hw).at rfl rfl, (h w hw).at rfl rfl, (h w hw).at rfl rfl, (h w hw).at rfl rfl, (h w hw).at rfl rfl, (h w hw).at rfl rfl, (h w hw).at rfl rfl, trivial⟩, hk⟩

def hlf (n : Int) : Int := IntKind.wrap .i64 (IntKind.wrap .i64 (Int.tdiv n 2) + 1)
def hlL (x : LV) : LV := ⟨x.tx, hlf x.last, x.c, x.u⟩
def hlD (x : DV) : DV := ⟨x.page, hlf x.since⟩
/-- A record with other lists. -/
def hlR (r : RV) : RV := { r with live := r.live.map hlL, dirty := r.dirty.map hlD }

/-- Where encodes stands. -/
structure En (w0 : World) (ow0 : Nat → Nat) (w : World) (ow : Nat → Nat) (b b1 b2 nB nL : Nat) (q : RV) (m1 mo : Mm) (tA tB : Nat) : Prop where
  x1 : Blk w b1 (q.ca m1) T_api_Record
  t1 : ow b1 = 30
  x2 : Blk w b2 (q.ca mo) T_api_Record
  t2 : ow b2 = 31
  lt : Lt w ow q mo 32 33
  rl : RdT w ow m1.la (flatV LV.cs q.live) tA
  rd : RdT w ow m1.da (flatV DV.cs q.dirty) tB
  ha : tA = 0 ∨ tA = 34
  hb : tB = 0 ∨ tB = 35
  ll : q.live.length = m1.ll
  dl : q.dirty.length = m1.dl
  cl : m1.ll ≤ 100
  cd : m1.dl ≤ 100
  w64 : q.w64
  bq : Bq w ow b nB nL
  F : Fro (fun u => u = 0 ∨ u = 50) w0 ow0 w ow
section
variable {w0 w w' : World} {ow0 ow ow' : Nat → Nat} {b b1 b2 nB nL : Nat} {q : RV} {m1 mo : Mm} {tA tB : Nat}
theorem En.fr {T : Nat → Prop} (h : En w0 ow0 w ow b b1 b2 nB nL q m1 mo tA tB) (f : Fro T w ow w' ow') (hT : ∀ u, u ≤ 35 ∨ u = 50 ∨ 1000 ≤ u → T u) : En w0 ow0 w' ow' b b1 b2 nB nL q m1 mo tA tB := by
  obtain ⟨a1, a2⟩ := blk_fr h.x1 h.t1 f (hT _ (by omega))
  obtain ⟨c1, c2⟩ := blk_fr h.x2 h.t2 f (hT _ (by omega))
  have := h.ha
  have := h.hb
  exact ⟨a1, a2, c1, c2, h.lt.fr f (hT _ (by omega)) (hT _ (by omega)), h.rl.fr f (hT _ (by omega)), h.rd.fr f (hT _ (by omega)), h.ha, h.hb, h.ll, h.dl, h.cl, h.cd, h.w64, h.bq.fr f fun u hu => hT _ (by omega), h.F.trans (f.mono fun u hu => hT _ (by omega))⟩
/-- .. behind what makes new blocks alone. -/
theorem En.kp (h : En w0 ow0 w ow b b1 b2 nB nL q m1 mo tA tB) (k : Kp no w w') (t : Nat) : En w0 ow0 w' (ext ow w.heap.size t) b b1 b2 nB nL q m1 mo tA tB := h.fr (Fro.of_kp0 (T := fun _ => True) t k) fun _ _ => trivial
theorem En.li (h : En w0 ow0 w ow b b1 b2 nB nL q m1 mo tA tB) : LiIn w m1 q.live q.dirty := ⟨h.rl.rd, h.ll, by have := h.cl; omega, h.rd.rd, h.dl, by have := h.cd; omega⟩
theorem En.lo (h : En w0 ow0 w ow b b1 b2 nB nL q m1 mo tA tB) : LiIn w mo q.live q.dirty := by
  have h1 := h.lt.ll
  have h2 := h.lt.dl
  have h3 := h.ll
  have h4 := h.dl
  have h5 := h.cl
  have h6 := h.cd
  exact h.lt.li (by omega) (by omega)
end

theorem fro_drew {T : Nat → Prop} (w : World) (ow : Nat → Nat) : Fro T w ow w.drew ow := Fro.of_kp' (Kp.drew w 1) fun _ _ hh => hh.elim
theorem fro_refl {T : Nat → Prop} (w : World) (ow : Nat → Nat) : Fro T w ow w ow := ⟨Kp.refl _ _, fun _ _ _ => rfl⟩

theorem halfL (L : List LV) {i : Nat} (hi : i < L.length) : ((L.map hlL).take i ++ L.drop i).set i (hlL L[i]) = (L.map hlL).take (i + 1) ++ L.drop (i + 1) := half_set (by simpa using hi) (by simp) (by simp)
theorem halfL_at (L : List LV) {i : Nat} (hi : i < L.length) (h : i < ((L.map hlL).take i ++ L.drop i).length) : ((L.map hlL).take i ++ L.drop i)[i]'h = L[i] := by
  rw [List.getElem_append_right (by simp; omega)]
  simp [List.length_take, Nat.min_eq_left (Nat.le_of_lt hi)]
theorem halfL_len (L : List LV) {i : Nat} (hi : i ≤ L.length) : ((L.map hlL).take i ++ L.drop i).length = L.length := by simp; omega
/-- A field of an element of a list is written over. -/
theorem hputL {w : World} {ow : Nat → Nat} {a : Option Addr} {l c t i b o : Nat} {L M : List LV} (hi : i < L.length) (h : SlT w ow T_api_Live 4 a l c (flatV LV.cs (((L.map hlL).take i ++ L.drop i) ++ M)) t) (hl : i < l) (ha : a = some ⟨b, o, none⟩)
    {ad : Addr} (had : ad = ⟨b, o + (i * 4 + 1), none⟩) {v : Int} (hv : v = hlf (L[i]).last) {K : World → Prop} (hK : ∀ w', SlT w' ow T_api_Live 4 a l c (flatV LV.cs (((L.map hlL).take (i + 1) ++ L.drop (i + 1)) ++ M)) t → Fro (fun u => u ≠ t) w ow w' ow → K w') : StF w ad (.int .i64 v) K := by
  subst hv
  have hz : i < ((L.map hlL).take i ++ L.drop i).length := by rw [halfL_len L (by omega)]; exact hi
  have hz2 : i < (((L.map hlL).take i ++ L.drop i) ++ M).length := by rw [List.length_append]; omega
  have e0 : (((L.map hlL).take i ++ L.drop i) ++ M) = (((L.map hlL).take i ++ L.drop i) ++ M).set i L[i] := by
    have : (((L.map hlL).take i ++ L.drop i) ++ M)[i]'hz2 = L[i] := by rw [List.getElem_append_left hz, halfL_at L hi]
    rw [← this]
    exact (List.set_getElem_self _).symm
  rw [e0] at h
  refine sltv_put h ha (by omega) (i := i * 4 + 1) (by omega) had fun w' h' f' => hK w' ?_ f'
  rw [flatV_set LV.csl (by omega) (g := hlL L[i]) rfl hz2, List.set_append_left _ _ hz, halfL L hi] at h'
  exact h'

theorem halfD (L : List DV) {i : Nat} (hi : i < L.length) : ((L.map hlD).take i ++ L.drop i).set i (hlD L[i]) = (L.map hlD).take (i + 1) ++ L.drop (i + 1) := half_set (by simpa using hi) (by simp) (by simp)
theorem halfD_at (L : List DV) {i : Nat} (hi : i < L.length) (h : i < ((L.map hlD).take i ++ L.drop i).length) : ((L.map hlD).take i ++ L.drop i)[i]'h = L[i] := by
  rw [List.getElem_append_right (by simp; omega)]
  simp [List.length_take, Nat.min_eq_left (Nat.le_of_lt hi)]
theorem halfD_len (L : List DV) {i : Nat} (hi : i ≤ L.length) : ((L.map hlD).take i ++ L.drop i).length = L.length := by simp; omega
/-- A field of an element of a list is written over. -/
theorem hputD {w : World} {ow : Nat → Nat} {a : Option Addr} {l c t i b o : Nat} {L M : List DV} (hi : i < L.length) (h : SlT w ow T_api_Dirty 2 a l c (flatV DV.cs (((L.map hlD).take i ++ L.drop i) ++ M)) t) (hl : i < l) (ha : a = some ⟨b, o, none⟩)
    {ad : Addr} (had : ad = ⟨b, o + (i * 2 + 1), none⟩) {v : Int} (hv : v = hlf (L[i]).since) {K : World → Prop} (hK : ∀ w', SlT w' ow T_api_Dirty 2 a l c (flatV DV.cs (((L.map hlD).take (i + 1) ++ L.drop (i + 1)) ++ M)) t → Fro (fun u => u ≠ t) w ow w' ow → K w') : StF w ad (.int .i64 v) K := by
  subst hv
  have hz : i < ((L.map hlD).take i ++ L.drop i).length := by rw [halfD_len L (by omega)]; exact hi
  have hz2 : i < (((L.map hlD).take i ++ L.drop i) ++ M).length := by rw [List.length_append]; omega
  have e0 : (((L.map hlD).take i ++ L.drop i) ++ M) = (((L.map hlD).take i ++ L.drop i) ++ M).set i L[i] := by
    have : (((L.map hlD).take i ++ L.drop i) ++ M)[i]'hz2 = L[i] := by rw [List.getElem_append_left hz, halfD_at L hi]
    rw [← this]
    exact (List.set_getElem_self _).symm
  rw [e0] at h
  refine sltv_put h ha (by omega) (i := i * 2 + 1) (by omega) had fun w' h' f' => hK w' ?_ f'
  rw [flatV_set DV.csl (by omega) (g := hlD L[i]) rfl hz2, List.set_append_left _ _ hz, halfD L hi] at h'
  exact h'

set_option maxRecDepth 100000 in
set_option maxHeartbeats 4000000 in
theorem encodes_c {w : World} {ow : Nat → Nat} {b nB nL : Nat} {r : RV} {m : Mm} {R : Ending → World → Prop} (hk : Bq w ow b nB nL) (hn : nL ≤ 900) (hnB : nB ≤ 900)
    (hl : RdT w ow m.la (flatV LV.cs r.live) 0) (hd : RdT w ow m.da (flatV DV.cs r.dirty) 0) (hll : r.live.length = m.ll) (hdl : r.dirty.length = m.dl) (hcl : m.ll ≤ 100) (hcd : m.dl ≤ 100) (h64 : r.w64)
    (h : ∀ w' ow', Bq w' ow' b (nB + 4) nL → Fro (fun u => u = 0 ∨ u = 50) w ow w' ow' → R (.returned (.bool true)) w') : GoC Try.prog F_law05_Book_encodes #[.pointer (some ⟨b, 0, none⟩), .agg (r.ca m)] w R := by
  refine S_law05_Book_encodes ?_
  unfold W_law05_Book_encodes
  refine AlF.intro fun b1 w1 hb1e hb1 k1 _ => ?_
  have f1 : Fro (fun _ => True) w ow w1 (ext ow w.heap.size 30) := Fro.of_kp0 30 k1
  have t1 : ext ow w.heap.size 30 b1 = 30 := ext_new (by omega)
  have hk := hk.fr f1 fun _ _ => trivial
  have hl := hl.fr f1 trivial
  have hd := hd.fr f1 trivial
  have F := f1.mono fun u (_ : u = 0 ∨ u = 50) => trivial
  generalize ext ow w.heap.size 30 = ow1 at *
  refine rec_rd hb1 (lent_c (r := r) (m := m) ⟨hl.rd, hll, by omega, hd.rd, hdl, by omega⟩ (by omega) (by omega) fun m2 w2 owL k2 ho2 hL2 e1 e2 => ⟨_, _, _, _, _, _, _, _, _, _, _, _, _, _, _, _, _, _, _, _, _, rfl, ?_⟩)
  have f2 : Fro (fun _ => True) w1 ow1 w2 (joinO ow1 (fun k => owL k + 28) w1.heap.size) := join_fro k2
  have lt2 : Lt w2 (joinO ow1 (fun k => owL k + 28) w1.heap.size) r m2 32 33 := ⟨hL2.lv.joinT ho2 (by omega) (· + 28), hL2.dv.joinT ho2 (by omega) (· + 28), hL2.ll, hL2.dl⟩
  have hk := hk.fr f2 fun _ _ => trivial
  have hl := hl.fr f2 trivial
  have hd := hd.fr f2 trivial
  have F := F.trans (f2.mono fun u (_ : u = 0 ∨ u = 50) => trivial)
  obtain ⟨x1, t1⟩ := blk_fr hb1 t1 f2 trivial
  generalize joinO ow1 (fun k => owL k + 28) w1.heap.size = ow2 at *
  refine rec_cp r m2 fun b2 w3 h3 => ?_
  have f3 : Fro (fun _ => True) w2 ow2 w3 (ext ow2 w2.heap.size 31) := Fro.of_kp0 31 h3.kp
  have hk := hk.fr f3 fun _ _ => trivial
  have hl := hl.fr f3 trivial
  have hd := hd.fr f3 trivial
  have F := F.trans (f3.mono fun u (_ : u = 0 ∨ u = 50) => trivial)
  obtain ⟨x1, t1⟩ := blk_fr x1 t1 f3 trivial
  have en3 : En w ow w3 (ext ow2 w2.heap.size 31) b b1 b2 nB nL r m m2 0 0 := ⟨x1, t1, h3.blk, ext_new h3.nw, lt2.fr f3 trivial trivial, hl, hd, .inl rfl, .inl rfl, hll, hdl, hcl, hcd, h64, hk, F⟩
  generalize ext ow2 w2.heap.size 31 = ow3 at *
  clear f1 f2 f3 hk hl hd F x1 t1 h3 hb1 lt2 hL2 ho2 k1 k2
  refine loopN (fun s w' => ∃ k : Nat, k ≤ 2 ∧ s.1 = (k : Int) ∧ ∃ q m1 mo ow' tA tB, En w ow w' ow' b b1 b2 (nB + 2 * k) nL q m1 mo tA tB) (fun s _ => 2 - s.1.toNat) ⟨0, by omega, rfl, r, m, m2, ow3, 0, 0, en3⟩ ?_
  clear en3 hll hdl hcl hcd h64 e1 e2
  rintro ⟨k0, u⟩ w4 ⟨k, hk2, hk0, q, m1, mo, ow4, tA, tB, en⟩ _
  dsimp only at hk0 ⊢
  subst hk0
  refine cond_d (fun hlt => ?_) (fun hge => ?_)
  rotate_left
  · have : k = 2 := by omega
    subst this
    exact h w4 ow4 en.bq en.F
  have hk1 : k < 2 := by omega
  refine rec_rd en.x2 (check_c (r := q) (m := mo) en.lo fun w5 k5 => ⟨_, rfl, ?_⟩)
  have en := en.kp k5 9
  generalize ext ow4 w4.heap.size 9 = ow5 at *
  refine rec_rd en.x2 (encode_any (r := q) (m := mo) en.lo en.w64 fun a6 c6 w6 k6 s6 hf6 => ⟨_, _, _, _, rfl, ?_⟩)
  have s6 := new_slt (ow := ow5) 40 s6 hf6
  have en := en.kp k6 40
  generalize ext ow5 w5.heap.size 40 = ow6 at *
  refine rec_rd en.x2 (encode_any (r := q) (m := mo) en.lo en.w64 fun a7 c7 w7 k7 s7 hf7 => ⟨_, _, _, _, rfl, ?_⟩)
  have s7 := new_slt (ow := ow6) 41 s7 hf7
  have s6 := s6.fr (Fro.of_kp0 (T := fun _ => True) 41 k7) trivial
  have en := en.kp k7 41
  generalize ext ow6 w6.heap.size 41 = ow7 at *
  refine rec_rd en.x1 (rencode_any (r := q) (m := m1) en.li en.w64 fun a8 c8 w8 k8 s8 hf8 => ⟨_, _, _, _, rfl, ?_⟩)
  have s8 := new_slt (ow := ow7) 42 s8 hf8
  have s6 := s6.fr (Fro.of_kp0 (T := fun _ => True) 42 k8) trivial
  have s7 := s7.fr (Fro.of_kp0 (T := fun _ => True) 42 k8) trivial
  have en := en.kp k8 42
  generalize ext ow7 w7.heap.size 42 = ow8 at *
  have hlen := encR_len en.w64
  clear hf6 hf7 hf8 k5 k6 k7 k8
  have nz : ∀ {w' : World} {a : Option Addr} {c t : Nat} {ow' : Nat → Nat}, SlT w' ow' T_uint8 1 a (encR q).length c (bvs (encR q)) t → a = none → (encR q).length = 0 := fun hs hn => by
    rcases Nat.eq_zero_or_pos (encR q).length with h0 | h0
    · exact h0
    · exact sl_some hs.sl h0 hn
  refine ⟨fun s w' => s.1 = true ∧ ∃ ow', En w ow w' ow' b b1 b2 (nB + 2 * k) nL q m1 mo tA tB ∧ SlT w' ow' T_uint8 1 a6 (encR q).length c6 (bvs (encR q)) 40 ∧ SlT w' ow' T_uint8 1 a7 (encR q).length c7 (bvs (encR q)) 41, ?_, ?_⟩
  · have kd : Kp no w8 w8.drew := Kp.drew w8 1
    refine ⟨fun w' => Kp no w8 w', kd, rec_rdS (fun w' k => k.blk en.x1 id) (num_c ⟨_, rfl, kd, rcheck_c (r := q) (m := m1) (en.li.kp0 kd) fun w9 k9 => ⟨_, rfl, kd.trans0 k9, cond_eq (fun _ => ?_) (fun hne => absurd rfl hne)⟩⟩)⟩
    have k89 := kd.trans0 k9
    refine num_c ⟨_, rfl, k89, cond_eq (fun _ => ?_) (fun hne => absurd rfl hne)⟩
    refine num_c ⟨_, rfl, k89, cond_eq (fun _ => ?_) (fun hne => absurd rfl hne)⟩
    have r6 := s6.sl.rd.kp0 k89
    have r7 := s7.sl.rd.kp0 k89
    have r8 := s8.sl.rd.kp0 k89
    refine same_c (b1 := encR q) (b2 := encR q) r6 rfl (nz s6) r8 rfl (nz s8) ⟨_, rfl, k89, cond_t (decide_eq_true rfl) ?_⟩
    refine same_c (b1 := encR q) (b2 := encR q) r7 rfl (nz s7) r8 rfl (nz s8) ⟨_, rfl, k89, cond_t (decide_eq_true rfl) ?_⟩
    have b1l := en.ll; have b1d := en.dl; have b2l := en.lt.ll; have b2d := en.lt.dl; have c1 := en.cl; have c2 := en.cd
    refine rec_rdS (fun w' k => k.blk en.x2 id) (rec_rdS (fun w' k => k.blk en.x1 id) (kept_c (r := q) (mo := mo) (m := m1) (en.lt.lv.sl.rd.kp0 k89) (en.lt.dv.sl.rd.kp0 k89) en.lt.ll en.lt.dl en.lt.lv.sl.2.1 en.lt.dv.sl.2.1 (en.li.kp0 k89) (by omega) (by omega) fun w10 k10 => ⟨_, rfl, k89.trans0 k10, rfl, ?_⟩))
    have k810 := k89.trans0 k10
    exact ⟨_, en.kp k810 9, s6.fr (Fro.of_kp0 (T := fun _ => True) 9 k810) trivial, s7.fr (Fro.of_kp0 (T := fun _ => True) 9 k810) trivial⟩
  clear s6 s7 s8 en
  rintro ⟨s, u⟩ w9 ⟨hs, ow9, en, s6, s7⟩ _
  dsimp only at hs ⊢
  subst hs
  refine bbytes_c en.bq (by omega) s6 (by omega) (by omega) fun w10 ow10 bq10 f10 => ⟨rfl, ?_⟩
  have s7 := s7.fr f10 (by omega)
  -- the rest of where it stands
  have x1 := blk_fr en.x1 en.t1 f10 (by omega)
  have x2 := blk_fr en.x2 en.t2 f10 (by omega)
  have lt := en.lt.fr f10 (by omega) (by omega)
  have hA := en.ha
  have hB := en.hb
  have rl := en.rl.fr f10 (by omega)
  have rd := en.rd.fr f10 (by omega)
  have F := en.F.trans (f10.mono fun u (hu : u = 0 ∨ u = 50) => by omega)
  have b1l := en.ll; have b1d := en.dl; have c1 := en.cl; have c2 := en.cd; have h64 := en.w64
  clear en f10 s6
  refine bbytes_c bq10 (by omega) s7 (by omega) (by omega) fun w11 ow11 bq11 f11 => ⟨rfl, cond_f rfl ?_⟩
  have x1 := blk_fr x1.1 x1.2 f11 (by omega)
  have x2 := blk_fr x2.1 x2.2 f11 (by omega)
  have lt := lt.fr f11 (by omega) (by omega)
  have rl := rl.fr f11 (by omega)
  have rd := rd.fr f11 (by omega)
  have F := F.trans (f11.mono fun u (hu : u = 0 ∨ u = 50) => by omega)
  clear f11 s7 bq10
  -- lists of its own
  refine rec_rd x1.1 (own_c (r := q) (m := m1) ⟨rl.rd, b1l, by omega, rd.rd, b1d, by omega⟩ (by omega) (by omega) fun m5 w12 owO k12 ho12 hL12 => ⟨_, _, _, _, _, _, _, _, _, _, _, _, _, _, _, _, _, _, _, _, _, rfl, ?_⟩)
  have f12 : Fro (fun _ => True) w11 ow11 w12 (joinO ow11 (fun k => owO k + 30) w11.heap.size) := join_fro k12
  have lv : SlT w12 (joinO ow11 (fun k => owO k + 30) w11.heap.size) T_api_Live 4 m5.la m5.ll m5.lc (flatV LV.cs q.live) 34 := hL12.lv.joinT ho12 (by omega) (· + 30)
  have dv : SlT w12 (joinO ow11 (fun k => owO k + 30) w11.heap.size) T_api_Dirty 2 m5.da m5.dl m5.dc (flatV DV.cs q.dirty) 35 := hL12.dv.joinT ho12 (by omega) (· + 30)
  have l5 := hL12.ll
  have d5 := hL12.dl
  have x1 := blk_fr x1.1 x1.2 f12 trivial
  have x2 := blk_fr x2.1 x2.2 f12 trivial
  have lt := lt.fr f12 trivial trivial
  have bq := bq11.fr f12 fun _ _ => trivial
  have F := F.trans (f12.mono fun u (hu : u = 0 ∨ u = 50) => trivial)
  generalize joinO ow11 (fun k => owO k + 30) w11.heap.size = ow12 at *
  clear f12 hL12 ho12 k12 rl rd bq11
  refine rec_st x1.1 q m5 fun w13 x13 k13 => ?_
  have f13 : Fro (fun u => u ≠ 30) w12 ow12 w13 ow12 := Fro.of_kp' k13 fun b _ hb' hne => hne (by rw [hb']; exact x1.2)
  have t1 := x1.2
  have x2 := blk_fr x2.1 x2.2 f13 (by omega)
  have lt := lt.fr f13 (by omega) (by omega)
  have bq := bq.fr f13 fun _ _ => by omega
  have lv := lv.fr f13 (by omega)
  have dv := dv.fr f13 (by omega)
  have F := F.trans (f13.mono fun u (hu : u = 0 ∨ u = 50) => by omega)
  clear f13 x1
  have lL := lt.lv
  have lD := lt.dv
  have ltl := lt.ll
  have ltd := lt.dl
  clear lt
  generalize hLe : q.live = L at *
  generalize hDe : q.dirty = D at *
  refine loopN (fun s w' => ∃ i : Nat, i ≤ L.length ∧ s.1 = (i : Int) ∧ SlT w' ow12 T_api_Live 4 m5.la m5.ll m5.lc (flatV LV.cs (((L.map hlL).take i ++ L.drop i) ++ [])) 34 ∧ SlT w' ow12 T_api_Live 4 mo.la (mo.ll + 1) mo.lc (flatV LV.cs (((L.map hlL).take i ++ L.drop i) ++ [mkl])) 32 ∧ Fro (fun u => u ≠ 34 ∧ u ≠ 32) w13 ow12 w' ow12) (fun s _ => L.length - s.1.toNat) ⟨0, Nat.zero_le _, rfl, by rw [List.append_nil]; exact lv, lL, fro_refl _ _⟩ ?_
  rintro ⟨i0, u⟩ wa ⟨i, hiL, hi0, sa, so, f⟩ _
  dsimp only at hi0 ⊢
  subst hi0
  obtain ⟨y1, y1t⟩ := blk_fr x13 t1 f (by omega)
  obtain ⟨y2, y2t⟩ := blk_fr x2.1 x2.2 f (by omega)
  refine ⟨_, _, _, y1.at rfl rfl, cond_d (fun hlt => ?_) (fun hge => ?_)⟩
  · have hi : i < L.length := by omega
    have fd : Fro (fun _ => True) wa ow12 wa.drew ow12 := fro_drew _ _
    have y1 := (blk_fr y1 y1t fd trivial).1
    have y2 := blk_fr y2 y2t fd trivial
    have sa := sa.fr fd trivial
    have so := so.fr fd trivial
    have f := f.trans (fd.mono fun u _ => trivial)
    have hz : i < (((L.map hlL).take i ++ L.drop i) ++ []).length := by rw [List.length_append, halfL_len _ (by omega)]; omega
    refine ⟨_, _, _, y1.at rfl rfl, _, _, _, y1.at rfl rfl, rd_el LV.csl (by omega) sa.sl.rd hz (by rw [List.length_append, halfL_len _ (by omega)]; simp; omega) fun b o ha hc => ?_⟩
    have hc1 := hc 1 _ rfl
    have e1 : ((((L.map hlL).take i ++ L.drop i) ++ [])[i]'hz) = L[i] := by
      rw [List.getElem_append_left (by rw [halfL_len _ (by omega)]; exact hi), halfL_at _ hi]
    rw [e1] at hc1
    refine ⟨(L[i]).last, by rw [Int.toNat_natCast, add_at, add_at]; exact hc1, by decide, ?_⟩
    refine ⟨by omega, by omega, _, ha, ?_⟩
    refine hputL hi sa (by omega) ha (by rw [Int.toNat_natCast, add_at, add_at, Nat.add_assoc]) rfl fun wb sb fb => ?_
    have y1 := blk_fr y1 y1t fb (by omega)
    have y2 := blk_fr y2.1 y2.2 fb (by omega)
    have so := so.fr fb (by omega)
    have f := f.trans (fb.mono fun u hu => hu.1)
    have fd : Fro (fun _ => True) wb ow12 wb.drew ow12 := fro_drew _ _
    have y1 := (blk_fr y1.1 y1.2 fd trivial).1
    have y2 := (blk_fr y2.1 y2.2 fd trivial).1
    have sb := sb.fr fd trivial
    have so := so.fr fd trivial
    have f := f.trans (fd.mono fun u _ => trivial)
    have hz2 : i < (((L.map hlL).take (i + 1) ++ L.drop (i + 1)) ++ []).length := by rw [List.length_append, halfL_len _ (by omega)]; omega
    refine ⟨_, _, _, y2.at rfl rfl, _, _, _, y1.at rfl rfl, rd_el LV.csl (by omega) sb.sl.rd hz2 (by rw [List.length_append, halfL_len _ (by omega)]; simp; omega) fun b' o' ha' hc' => ?_⟩
    have hc2 := hc' 1 _ rfl
    have e2 : ((((L.map hlL).take (i + 1) ++ L.drop (i + 1)) ++ [])[i]'hz2) = hlL L[i] := by
      rw [List.getElem_append_left (by rw [halfL_len _ (by omega)]; exact hi), List.getElem_append_left (by simp; omega)]
      simp
    rw [e2] at hc2
    refine ⟨hlf (L[i]).last, by rw [Int.toNat_natCast, add_at, add_at]; exact hc2, ?_⟩
    obtain ⟨b3, cur, ha3, _⟩ := so.sl.addr (by omega)
    refine ⟨by omega, by omega, _, ha3, ?_⟩
    refine hputL hi so (by omega) ha3 (by rw [Int.toNat_natCast, add_at, add_at, Nat.add_assoc]) rfl fun wc sc fc => ?_
    have wi : IntKind.wrap .i64 ((i : Int) + 1) = (i : Int) + 1 := wrap_i64 (by omega) (by omega)
    rw [wi]
    clear wi
    exact ⟨⟨i + 1, by omega, by omega, sb.fr fc (by omega), sc, f.trans (fc.mono fun u hu => hu.2)⟩, by omega⟩
  have hie : i = L.length := by omega
  have eZ : (L.map hlL).take i ++ L.drop i = L.map hlL := half_end (by simp [hie]) hie.symm
  rw [eZ] at sa so
  rw [List.append_nil] at sa
  have bq := bq.fr f fun u hu => by omega
  have dv := dv.fr f (by omega)
  have lD := lD.fr f (by omega)
  have F := F.trans (f.mono fun u (hu : u = 0 ∨ u = 50) => by omega)
  have lvE := sa
  have lLE := so
  clear f lv lL x13 x2 hie eZ hge sa so
  refine loopN (fun s w' => ∃ i : Nat, i ≤ D.length ∧ s.1 = (i : Int) ∧ SlT w' ow12 T_api_Dirty 2 m5.da m5.dl m5.dc (flatV DV.cs (((D.map hlD).take i ++ D.drop i) ++ [])) 35 ∧ SlT w' ow12 T_api_Dirty 2 mo.da (mo.dl + 1) mo.dc (flatV DV.cs (((D.map hlD).take i ++ D.drop i) ++ [mkd])) 33 ∧ Fro (fun u => u ≠ 35 ∧ u ≠ 33) wa ow12 w' ow12) (fun s _ => D.length - s.1.toNat) ⟨0, Nat.zero_le _, rfl, by rw [List.append_nil]; exact dv, lD, fro_refl _ _⟩ ?_
  rintro ⟨i0, u⟩ wa ⟨i, hiL, hi0, sa, so, f⟩ _
  dsimp only at hi0 ⊢
  subst hi0
  obtain ⟨y1, y1t⟩ := blk_fr y1 y1t f (by omega)
  obtain ⟨y2, y2t⟩ := blk_fr y2 y2t f (by omega)
  refine ⟨_, _, _, y1.at rfl rfl, cond_d (fun hlt => ?_) (fun hge => ?_)⟩
  · have hi : i < D.length := by omega
    have fd : Fro (fun _ => True) wa ow12 wa.drew ow12 := fro_drew _ _
    have y1 := (blk_fr y1 y1t fd trivial).1
    have y2 := blk_fr y2 y2t fd trivial
    have sa := sa.fr fd trivial
    have so := so.fr fd trivial
    have f := f.trans (fd.mono fun u _ => trivial)
    have hz : i < (((D.map hlD).take i ++ D.drop i) ++ []).length := by rw [List.length_append, halfD_len _ (by omega)]; omega
    refine ⟨_, _, _, y1.at rfl rfl, _, _, _, y1.at rfl rfl, rd_el DV.csl (by omega) sa.sl.rd hz (by rw [List.length_append, halfD_len _ (by omega)]; simp; omega) fun b o ha hc => ?_⟩
    have hc1 := hc 1 _ rfl
    have e1 : ((((D.map hlD).take i ++ D.drop i) ++ [])[i]'hz) = D[i] := by
      rw [List.getElem_append_left (by rw [halfD_len _ (by omega)]; exact hi), halfD_at _ hi]
    rw [e1] at hc1
    refine ⟨(D[i]).since, by rw [Int.toNat_natCast, add_at, add_at]; exact hc1, by decide, ?_⟩
    refine ⟨by omega, by omega, _, ha, ?_⟩
    refine hputD hi sa (by omega) ha (by rw [Int.toNat_natCast, add_at, add_at, Nat.add_assoc]) rfl fun wb sb fb => ?_
    have y1 := blk_fr y1 y1t fb (by omega)
    have y2 := blk_fr y2.1 y2.2 fb (by omega)
    have so := so.fr fb (by omega)
    have f := f.trans (fb.mono fun u hu => hu.1)
    have fd : Fro (fun _ => True) wb ow12 wb.drew ow12 := fro_drew _ _
    have y1 := (blk_fr y1.1 y1.2 fd trivial).1
    have y2 := (blk_fr y2.1 y2.2 fd trivial).1
    have sb := sb.fr fd trivial
    have so := so.fr fd trivial
    have f := f.trans (fd.mono fun u _ => trivial)
    have hz2 : i < (((D.map hlD).take (i + 1) ++ D.drop (i + 1)) ++ []).length := by rw [List.length_append, halfD_len _ (by omega)]; omega
    refine ⟨_, _, _, y2.at rfl rfl, _, _, _, y1.at rfl rfl, rd_el DV.csl (by omega) sb.sl.rd hz2 (by rw [List.length_append, halfD_len _ (by omega)]; simp; omega) fun b' o' ha' hc' => ?_⟩
    have hc2 := hc' 1 _ rfl
    have e2 : ((((D.map hlD).take (i + 1) ++ D.drop (i + 1)) ++ [])[i]'hz2) = hlD D[i] := by
      rw [List.getElem_append_left (by rw [halfD_len _ (by omega)]; exact hi), List.getElem_append_left (by simp; omega)]
      simp
    rw [e2] at hc2
    refine ⟨hlf (D[i]).since, by rw [Int.toNat_natCast, add_at, add_at]; exact hc2, ?_⟩
    obtain ⟨b3, cur, ha3, _⟩ := so.sl.addr (by omega)
    refine ⟨by omega, by omega, _, ha3, ?_⟩
    refine hputD hi so (by omega) ha3 (by rw [Int.toNat_natCast, add_at, add_at, Nat.add_assoc]) rfl fun wc sc fc => ?_
    have wi : IntKind.wrap .i64 ((i : Int) + 1) = (i : Int) + 1 := wrap_i64 (by omega) (by omega)
    rw [wi]
    clear wi
    exact ⟨⟨i + 1, by omega, by omega, sb.fr fc (by omega), sc, f.trans (fc.mono fun u hu => hu.2)⟩, by omega⟩
  have hie : i = D.length := by omega
  have eZ : (D.map hlD).take i ++ D.drop i = D.map hlD := half_end (by simp [hie]) hie.symm
  rw [eZ] at sa so
  rw [List.append_nil] at sa
  have bq := bq.fr f fun u hu => by omega
  have lvE := lvE.fr f (by omega)
  have lLE := lLE.fr f (by omega)
  have F := F.trans (f.mono fun u (hu : u = 0 ∨ u = 50) => by omega)
  obtain ⟨z1, z1t⟩ := blk_fr y1 y1t (fro_refl (T := fun _ => True) _ _) trivial
  have wk : IntKind.wrap .i64 ((k : Int) + 1) = (k : Int) + 1 := wrap_i64 (by omega) (by omega)
  rw [wk]
  clear wk
  refine ⟨⟨k + 1, by omega, by omega, hlR q, m5, mo, ow12, 34, 35, ?_⟩, by omega⟩
  refine ⟨y1, y1t, y2, y2t, ⟨?_, ?_, ?_, ?_⟩, ?_, ?_, .inr rfl, .inr rfl, ?_, ?_, by omega, by omega, h64, ?_, F⟩
  · show SlT wa ow12 T_api_Live 4 mo.la (mo.ll + 1) mo.lc (flatV LV.cs (q.live.map hlL ++ [mkl])) 32
    rw [hLe]
    exact lLE
  · show SlT wa ow12 T_api_Dirty 2 mo.da (mo.dl + 1) mo.dc (flatV DV.cs (q.dirty.map hlD ++ [mkd])) 33
    rw [hDe]
    exact so
  · show (q.live.map hlL).length = mo.ll
    rw [List.length_map, hLe]
    exact ltl
  · show (q.dirty.map hlD).length = mo.dl
    rw [List.length_map, hDe]
    exact ltd
  · show RdT wa ow12 m5.la (flatV LV.cs (q.live.map hlL)) 34
    rw [hLe]
    exact lvE.rdt
  · show RdT wa ow12 m5.da (flatV DV.cs (q.dirty.map hlD)) 35
    rw [hDe]
    exact sa.rdt
  · show (q.live.map hlL).length = m5.ll
    rw [List.length_map, hLe]
    exact l5
  · show (q.dirty.map hlD).length = m5.dl
    rw [List.length_map, hDe]
    exact d5
  · have e : nB + 2 * (k + 1) = nB + 2 * k + 1 + 1 := by omega
    rw [e]
    exact bq
end Go.Proofs.Ytjhncijdkmbopaa
