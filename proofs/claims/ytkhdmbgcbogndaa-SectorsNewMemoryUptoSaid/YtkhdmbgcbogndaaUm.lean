/- The statement SectorsNewMemory. Conditions: none. -/
import Derived.Test.YtkhdmbgcbogndaaUl
import Derived.Test.YtkhdmbgcbogndaaUc
set_option linter.unusedVariables false
set_option linter.unusedSimpArgs false
namespace Go.Proofs.Ytkhdmbgcbogndaa
open Go Go.RowKit

/-- A mark of a list of pending writes. -/
def mkC (k : Nat) (i : Int) : Int := IntKind.wrap .i64 ((IntKind.wrap .i64 ((-1000 : Int) * ((k + 1 : Nat) : Int))) - i)
theorem set2_get {l : List Value} {i j : Nat} {v u : Value} : ((l.set (i * 2) v).set (i * 2 + 1) u)[j * 2]? = if j = i ∧ i * 2 < l.length then some v else l[j * 2]? := by
  rw [List.getElem?_set, if_neg (by omega), List.getElem?_set]
  by_cases h : i = j
  · subst h
    by_cases h2 : i * 2 < l.length
    · rw [if_pos rfl, if_pos h2, if_pos ⟨rfl, h2⟩]
    · rw [if_pos rfl, if_neg h2, if_neg (fun hh => h2 hh.2), List.getElem?_eq_none (by omega)]
  · rw [if_neg (by omega), if_neg (fun hh => h hh.1.symm)]

theorem bump_u8 (x : UInt8) : Value.int .u8 (IntKind.wrap .u8 ((x.toNat : Int) + 1)) = bv (x + 1) := by
  have e3 : (x.toNat : Int) + 1 = ((x.toNat + 1 : Nat) : Int) := by omega
  rw [e3, wrap_mod rfl]
  unfold bv
  congr 1

set_option maxRecDepth 100000 in
theorem newmem_c {w : World} {size : Int} {a1 a2 : Option Addr} {l1 c1 l2 c2 : Nat} {L1 L2 : List PU} {R : Ending → World → Prop} (hsz : -9223372036854775808 ≤ size ∧ size ≤ 9223372036854775807)
    (h1 : PutsOk w a1 l1 c1 L1) (h2 : PutsOk w a2 l2 c2 L2) (h : ∀ w', Kp no w w' → R (.returned (.bool true)) w') :
    GoC Try.prog F_law03_SectorsNewMemory #[.int .i64 size, .slice a1 l1 c1, .slice a2 l2 c2] w R := by
  refine S_law03_SectorsNewMemory ?_
  unfold W_law03_SectorsNewMemory
  have hb5 := mod_in (i := size) (n := 5) (by decide)
  have kw : ∀ k : Nat, k ≤ 100000 → IntKind.wrap .i64 ((k : Int) + 1) = ((k + 1 : Nat) : Int) := fun k hk => by rw [wrap_i64 (by omega) (by omega)]; omega
  obtain ⟨N, hN⟩ : ∃ N : Nat, (N : Int) = 1 + size % 5 := ⟨(1 + size % 5).toNat, by omega⟩
  have hwN : IntKind.wrap .i64 (1 + size % 5) = (N : Int) := by rw [wrap_i64 (by omega) (by omega)]; exact hN.symm
  refine brought_c (n := 5) (by decide) (by decide) hsz.1 hsz.2 ⟨_, rfl, ?_⟩
  rw [hwN]
  refine new_c (n := N) (ow := fun _ => 0) (by omega) (by omega) 50 fun b w2 ow2 hD2 k2 ho2 _ => ⟨_, _, rfl, cond_f rfl (num_c ⟨_, rfl, cond_f rfl ?_⟩)⟩
  have hO2 : Old w w2 ow2 := ⟨k2, ho2⟩
  refine awake_c fun w4 k4 => ⟨_, rfl, cond_f rfl ?_⟩
  refine AlF.intro fun hb w5 hbe hb5' k5 s5 => ?_
  have k25 := k4.trans0 k5
  have f5 : Fro (fun _ => True) w2 ow2 w5 (ext ow2 w2.heap.size 2) := Fro.of_kp0 2 k25
  have hD5 := hD2.fr f5 trivial trivial trivial trivial
  have hO5 := hO2.fr f5 trivial
  have t5 : ext ow2 w2.heap.size 2 hb = 2 := ext_new (by have := k4.size; omega)
  generalize ext ow2 w2.heap.size 2 = ow5 at *
  refine size_c hD5 ⟨_, rfl, ?_⟩
  rw [new_n N]
  have hNM5 : NMs w b N hb 0 none 0 0 (Dv.new N) w5 :=
    ⟨ow5, none, 0, none, 0, [], [], fun _ => [], [], fun _ => [], ⟨hD5, hO5, slt_nil _ _ _ _ _, Fam.nil, rfl, rfl, rfl, new_n N, fun x hx => absurd hx (by simp), by simp⟩, ⟨hb5', t5, slt_nil _ _ _ _ _, slt_nil _ _ _ _ _, Fam.nil, fun j hj => absurd hj (by simp), rfl, by simp, fun x hx => absurd hx (by simp)⟩, by simp, rfl, rfl⟩
  refine ⟨fun s w' => ∃ (ca : Option Addr) (cc : Nat) (v : Dv), s = ((ca, 6, cc), ()) ∧ NMs w b N hb 6 ca 6 cc v w' ∧ v.q.length ≤ 60, ?_, ?_⟩
  · -- the rounds
    refine loopN (fun s w' => ∃ (r : Nat) (ca : Option Addr) (cc : Nat) (v : Dv), s = ((ca, 2 * r, cc), (r : Int), ()) ∧ r ≤ 3 ∧ NMs w b N hb (2 * r) ca (2 * r) cc v w' ∧ v.q.length ≤ 20 * r) (fun s _ => 3 - s.2.1.toNat)
      ⟨0, none, 0, _, rfl, by omega, hNM5, by simp [Dv.new]⟩ ?_
    rintro s w7 ⟨r, ca, cc, v, rfl, hr, hNM, hq⟩ _
    dsimp only
    refine cond_d (fun hlt => ?_) (fun hge => ?_)
    rotate_left
    · have hre : r = 3 := by omega
      subst hre
      exact ⟨ca, cc, v, rfl, hNM, by omega⟩
    have hr3 : r < 3 := by omega
    rw [kw r (by omega)]
    refine ⟨fun s w' => w' = w7 ∧ ∃ M : List PU, PutsOk w s.1.1 s.1.2.1 s.1.2.2 M, cond_eq (fun _ => ⟨rfl, L2, h2⟩) (fun _ => ⟨rfl, L1, h1⟩), ?_⟩
    rintro ⟨⟨am, lm, cm⟩, u'⟩ _ ⟨rfl, M, hM⟩ _
    dsimp only at hM ⊢
    obtain ⟨ow, ga, gc, wa, wc, G, W, C, L, D, hN7, hH7, hG7, hL7, hL7'⟩ := hNM
    have hU : ∀ u, u = 0 → Td 50 u := fun u hu => by subst hu; decide
    have F := wroteL_f (M.take 20) v
    refine wrote_c (L := M) (most := 20) hN7.d (hN7.o.rdT hM.rd) hU hM.n (by omega) hN7.dn hN7.st hM.ok (by omega) (by rw [hN7.kp]; simp) fun w9 ow9 hD9 f9 => ⟨_, rfl, cond_f rfl ?_⟩
    have hq9 : (wroteL v (M.take 20)).q.length ≤ 20 * (r + 1) := by
      rw [F.q, List.length_append, List.length_map, List.length_take]; omega
    have hn9 : (wroteL v (M.take 20)).n = N := by rw [← hN7.n]; unfold Dv.n; rw [F.img]
    have hNM9 : NMs w b N hb (2 * r) ca (2 * r) cc (wroteL v (M.take 20)) w9 :=
      ⟨ow9, ga, gc, wa, wc, G, W, C, L, D, ⟨hD9, hN7.o.fr f9 (by decide), hN7.l.fr f9 (by decide), hN7.f.fr f9 (fun j hj => ⟨by omega, by omega, by omega⟩), by rw [F.down]; exact hN7.dn, F.step hN7.st, by rw [F.keep]; exact hN7.kp, hn9, hN7.sm, hN7.ln⟩, hH7.fr f9 (fun x h1 h2 => ⟨by omega, by omega, by omega⟩) (fun x hx => ⟨by omega, by omega, by omega⟩), hG7, hL7, hL7'⟩
    generalize wroteL v (M.take 20) = v9 at *
    refine loopN (fun s w' => ∃ (t : Nat) (ca : Option Addr) (cc : Nat), s = ((ca, 2 * r + t, cc), (t : Int), ()) ∧ t ≤ 2 ∧ NMs w b N hb (2 * r + t) ca (2 * r + t) cc v9 w') (fun s _ => 2 - s.2.1.toNat)
      ⟨0, ca, cc, rfl, by omega, hNM9⟩ ?_
    rintro s w10 ⟨t, ca1, cc1, rfl, ht, hNM10⟩ _
    dsimp only
    refine cond_d (fun hlt2 => ?_) (fun hge2 => ?_)
    · rw [kw t (by omega)]
      exact turn_c (by omega) (by omega) hNM10 (by omega) fun ca' cc' w' hNM' => ⟨⟨t + 1, ca', cc', rfl, by omega, hNM'⟩, by simp only [Int.toNat_natCast]; omega⟩
    have hte : t = 2 := by omega
    subst hte
    refine cond_eq (fun hr1 => ?_) (fun hr1 => ⟨⟨r + 1, ca1, cc1, v9, rfl, by omega, hNM10, hq9⟩, by simp only [Int.toNat_natCast]; omega⟩)
    obtain ⟨ow10, ga', gc', wa', wc', G', W', C', L', D', hN10, hH10, hG10, hL10, hL10'⟩ := hNM10
    have es : v9.sync = (0, v9.bump.synced) := by unfold Dv.sync; rw [hN10.dn, if_neg (by decide), if_neg (by rw [hN10.st]; decide)]
    have hok10 := hN10.d.ok
    refine sync_c hN10.d (by omega) (by rw [hN10.kp]; simp) fun w22 ow22 hD22 f22 => ⟨_, rfl, num_c ⟨_, rfl, cond_f (by rw [es]; rfl) ?_⟩⟩
    have hns : v9.sync.2.n = N := by rw [Dv.sync_n hok10]; exact hN10.n
    rw [es] at hD22 hns
    refine ⟨⟨r + 1, ca1, cc1, v9.bump.synced, rfl, by omega, ⟨ow22, ga', gc', wa', wc', G', W', C', L', D', ⟨hD22, hN10.o.fr f22 (by decide), hN10.l.fr f22 (by decide), hN10.f.fr f22 (fun j hj => ⟨by omega, by omega, by omega⟩), hN10.dn, ?_, hN10.kp, hns, hN10.sm, hN10.ln⟩, hH10.fr f22 (fun x h1 h2 => ⟨by omega, by omega, by omega⟩) (fun x hx => ⟨by omega, by omega, by omega⟩), hG10, hL10, hL10'⟩, by simp [Dv.synced]⟩, by simp only [Int.toNat_natCast]; omega⟩
    show (if v9.step = 0 then (0 : Int) else v9.step - 1) = 0
    rw [if_pos hN10.st]
  rintro s w24 ⟨ca, cc, v, rfl, hNM, hq⟩ _
  dsimp only
  obtain ⟨ow, ga, gc, wa, wc, G, W, C, L, D, hN24, hH24, hG24, hL24, _⟩ := hNM
  have hok := hN24.d.ok
  have hlen := hok.len
  have hn := hN24.n
  -- the image, the cache
  refine image_c hN24.d fun a8 c8 w25 hs25 k25 fr25 => ⟨_, _, _, rfl, ?_⟩
  refine append_new er_u8 hs25.rd (by rw [bvs_len]; omega) (fun h0 => sl_some' hs25 h0) bvs_one (by omega) (by omega) fun a9 c9 w26 hs26 k26 fr26 _ => ⟨_, _, _, rfl, ?_⟩
  have k2426 := k25.trans0 k26
  have f26 : Fro (fun _ => True) w24 ow w26 (ext ow w24.heap.size 9) := Fro.of_kp0 9 k2426
  have x26 : SlT w26 (ext ow w24.heap.size 9) T_uint8 1 a9 v.img.length c9 (bvs v.img) 9 := ⟨hs26, fun j hj => ext_new (by have := fr26 j hj; have := k25.size; omega)⟩
  have hN26 := hN24.all f26
  have hH26 := hH24.all f26
  generalize ext ow w24.heap.size 9 = ow26 at *
  refine cache_c hN26.d (by omega) fun a10 c10 X w27 hX hXv => ⟨_, _, _, rfl, ?_⟩
  have f27 : Fro (fun _ => True) w26 ow26 w27 ow26 := Fro.kp0 hX.k
  have hN27 := hN26.all f27
  have hH27 := hH26.all f27
  have x27 := x26.fr f27 trivial
  refine ⟨fun _ w' => ∃ ow', NR w w' ow' b N v ca cc L D ∧ SlT w' ow' T_uint8 1 a9 v.img.length c9 (bvs v.img) 9, ?_, ?_⟩
  · exact apart_c hH27 fun w28 ow28 f28 => ⟨_, rfl, cond_f rfl ⟨ow28, hN27.fr f28 (by omega) (by omega) (fun x h1 h2 => by omega) (fun x hx => by omega), x27.fr f28 (by omega)⟩⟩
  rintro _ w29 ⟨ow29, hN29, x29⟩ _
  clear hN24 hN26 hN27 hH24 hH26 hH27 x26 x27
  have hsm := hN29.sm
  have hsmj : ∀ j (hj : j < L.length), (L[j]).l ≤ 1000 := fun j hj => hsm _ (List.getElem_mem hj)
  rw [← hL24]
  have hL6 : L.length = 6 := hL24
  -- marked
  refine ⟨fun _ w' => ∃ (ow' : Nat → Nat) (D' : Nat → List Value), NR w w' ow' b N v ca cc L D' ∧ SlT w' ow' T_uint8 1 a9 v.img.length c9 (bvs v.img) 9 ∧ ∀ j (hj : j < L.length) i, i < (L[j]).l → (D' j)[i * 2]? = some (.int .i64 (mkC j (i : Int))), ?_, ?_⟩
  · refine loopN (fun s w' => ∃ (k : Nat) (ow' : Nat → Nat) (D' : Nat → List Value), s.1 = (k : Int) ∧ k ≤ L.length ∧ NR w w' ow' b N v ca cc L D' ∧ SlT w' ow' T_uint8 1 a9 v.img.length c9 (bvs v.img) 9 ∧ ∀ j (hj : j < L.length), j < k → ∀ i, i < (L[j]).l → (D' j)[i * 2]? = some (.int .i64 (mkC j (i : Int)))) (fun s _ => L.length - s.1.toNat)
      ⟨0, ow29, D, rfl, by omega, hN29, x29, fun j _ hj => by omega⟩ ?_
    rintro ⟨k0, u'⟩ w30 ⟨k, ow30, D30, hk0, hk, hN30, x30, hD30⟩ _
    dsimp only at hk0 ⊢
    subst hk0
    refine cond_d (fun hlt => ?_) (fun hge => ⟨ow30, D30, hN30, x30, fun j hj i hi => hD30 j hj (by omega) i hi⟩)
    have hkl : k < L.length := by omega
    have hsk := hsmj k hkl
    rw [kw k (by omega)]
    refine loopN (fun s w' => ∃ (i : Nat) (ow' : Nat → Nat) (D' : Nat → List Value), s.1 = (i : Int) ∧ i ≤ (L[k]).l ∧ NR w w' ow' b N v ca cc L D' ∧ SlT w' ow' T_uint8 1 a9 v.img.length c9 (bvs v.img) 9 ∧ (∀ j (hj : j < L.length), j < k → ∀ i, i < (L[j]).l → (D' j)[i * 2]? = some (.int .i64 (mkC j (i : Int)))) ∧ ∀ i', i' < i → (D' k)[i' * 2]? = some (.int .i64 (mkC k (i' : Int)))) (fun s _ => (L[k]).l - s.1.toNat)
      ⟨0, ow30, D30, rfl, by omega, hN30, x30, hD30, fun i' hi' => by omega⟩ ?_
    rintro ⟨i0, u''⟩ w31 ⟨i, ow31, D31, hi0, hi, hN31, x31, hD31, hT31⟩ _
    dsimp only at hi0 ⊢
    subst hi0
    have hr31 := hN31.l.sl.rd
    refine siI hr31 hkl rfl rfl (cond_d (fun hlt2 => ?_) (fun hge2 => ?_))
    · rw [kw i (by omega)]
      have hil : i < (L[k]).l := by omega
      have hF := hN31.f
      obtain ⟨ba, ha⟩ := (hF k hkl).addr (by omega)
      have hl31 : (D31 k).length = (L[k]).l * 2 := (hF k hkl).len1
      refine siI hr31 hkl rfl rfl ⟨by omega, hlt2, _, ha, ?_⟩
      refine hF.put hkl (i := i * 2) (by omega) ha (by rw [Int.toNat_natCast, add_at]) fun w32 hF32 f32 => ?_
      refine hF32.put hkl (i := i * 2 + 1) (by omega) ha (by rw [Int.toNat_natCast, add_at, add_at]; congr 1) fun w33 hF33 f33 => ?_
      have ff := f32.trans f33
      have hN33 : NR w w33 ow31 b N v ca cc L (fun j => if j = k then (((D31 k).set (i * 2) (.int .i64 (mkC k (i : Int)))).set (i * 2 + 1) (.slice none 0 0)) else D31 j) :=
        ⟨hN31.d.fr ff (by omega) (by omega) (by omega) (by omega), hN31.o.fr ff (by omega), hN31.l.fr ff (by omega), hF33.congr fun j hj => by
          by_cases hjk : j = k
          · subst hjk; rw [if_pos rfl, if_pos rfl, if_pos rfl]; rfl
          · rw [if_neg hjk, if_neg hjk, if_neg hjk], hN31.dn, hN31.st, hN31.kp, hN31.n, hN31.sm, hN31.ln⟩
      refine ⟨⟨i + 1, ow31, _, rfl, by omega, hN33, x31.fr ff (by omega), fun j hj hjk i' hi' => ?_, fun i' hi' => ?_⟩, by simp only [Int.toNat_natCast]; omega⟩
      · rw [if_neg (by omega)]
        exact hD31 j hj hjk i' hi'
      · rw [if_pos rfl, set2_get]
        by_cases hii : i' = i
        · subst hii
          rw [if_pos ⟨rfl, by omega⟩]
        · rw [if_neg (fun hh => hii hh.1)]
          exact hT31 i' (by omega)
    · refine ⟨⟨k + 1, ow31, D31, rfl, by omega, hN31, x31, fun j hj hjk i' hi' => ?_⟩, by simp only [Int.toNat_natCast]; omega⟩
      by_cases hjk' : j = k
      · subst hjk'
        exact hT31 i' (by omega)
      · exact hD31 j hj (by omega) i' hi'
  rintro _ w34 ⟨ow34, D34, hN34, x34, hD34⟩ _
  -- grown
  refine ⟨fun s w' => ∃ (ow' : Nat → Nat) (M : List SI) (ma : Option Addr) (mc : Nat) (E : Nat → List Value), s = ((ma, L.length, mc), ()) ∧ M.length = L.length ∧ SlT w' ow' T_s_api_Pending 1 ma L.length mc (M.map siV) 10 ∧ NR w w' ow' b N v ca cc L D34 ∧ SlT w' ow' T_uint8 1 a9 v.img.length c9 (bvs v.img) 9 ∧ Fam w' ow' T_api_Pending 2 2000 M E ∧ (∀ j (hj : j < M.length) (hl : j < L.length), (M[j]).l = (L[j]).l + 1) ∧ ∀ j (hj : j < L.length) i, i < (L[j]).l + 1 → (E j)[i * 2]? = some (.int .i64 (mkC j (i : Int))), ?_, ?_⟩
  · refine loopN (fun s w' => ∃ (k : Nat) (ow' : Nat → Nat) (M : List SI) (ma : Option Addr) (mc : Nat) (E : Nat → List Value), s = ((ma, k, mc), (k : Int), ()) ∧ k ≤ L.length ∧ M.length = k ∧ SlT w' ow' T_s_api_Pending 1 ma k mc (M.map siV) 10 ∧ NR w w' ow' b N v ca cc L D34 ∧ SlT w' ow' T_uint8 1 a9 v.img.length c9 (bvs v.img) 9 ∧ Fam w' ow' T_api_Pending 2 2000 M E ∧ (∀ j (hj : j < M.length) (hl : j < L.length), (M[j]).l = (L[j]).l + 1) ∧ ∀ j (hj : j < L.length), j < k → ∀ i, i < (L[j]).l + 1 → (E j)[i * 2]? = some (.int .i64 (mkC j (i : Int)))) (fun s _ => L.length - s.2.1.toNat)
      ⟨0, ow34, [], none, 0, fun _ => [], rfl, by omega, rfl, slt_nil _ _ _ _ _, hN34, x34, Fam.nil, fun j hj => by simp at hj, fun j _ hj => by omega⟩ ?_
    rintro s w35 ⟨k, ow35, M, ma, mc, E, rfl, hk, hMl, hL35, hN35, x35, hM35, hlM, hE35⟩ _
    dsimp only
    refine cond_d (fun hlt => ?_) (fun hge => ?_)
    rotate_left
    · have hke : k = L.length := by omega
      subst hke
      exact ⟨ow35, M, ma, mc, E, rfl, hMl, hL35, hN35, x35, hM35, hlM, fun j hj => hE35 j hj hj⟩
    have hkl : k < L.length := by omega
    have hsk := hsmj k hkl
    rw [kw k (by omega)]
    have kd : Kp no w35 w35.drew := Kp.drew w35 1
    have fd : Fro (fun _ => True) w35 ow35 w35.drew ow35 := Fro.kp0 kd
    have hSd := hN35.l.sl.rd.kp0 kd
    refine ⟨fun w' => Rd w' ca (L.map siV), hSd, siIS (S := fun w' => Rd w' ca (L.map siV)) hSd (fun w' hw => hw) hkl rfl rfl (siIS (S := fun w' => Rd w' ca (L.map siV)) hSd (fun w' hw => hw) hkl rfl rfl ?_)⟩
    refine AlF.intro fun b3 w36 hb3e hb3 k36 s36 => ⟨hSd.kp0 k36, ?_⟩
    have f36 : Fro (fun _ => True) w35 ow35 w36 (ext ow35 w35.heap.size 1) := Fro.of_kp0 1 (kd.trans0 k36)
    have hN36 := hN35.all f36
    have x36 := x35.fr f36 trivial
    have hM36 := hM35.fr f36 (fun _ _ => trivial)
    have hL36 := hL35.fr f36 trivial
    generalize ext ow35 w35.heap.size 1 = ow36 at *
    refine Fam.grow er_pd hN36.f hM36 hkl hMl (m := 1) (rd_cells (xs := [.int .i64 (mkC k ((L[k]).l : Int)), .slice none 0 0]) hb3 rfl) rfl (by omega) (fun h => by cases h) (fun u hu => by
      simp only [List.mem_cons, List.not_mem_nil, or_false] at hu
      rcases hu with rfl | rfl <;> rfl) (by omega) (by omega) fun a' c' w37 ow37 hF37 hM37 k37 f37 => ⟨_, _, _, rfl, ?_⟩
    have hN37 : NR w w37 ow37 b N v ca cc L D34 := ⟨hN36.d.fr f37 (by omega) (by omega) (by omega) (by omega), hN36.o.fr f37 (by omega), hN36.l.fr f37 (by omega), hF37, hN36.dn, hN36.st, hN36.kp, hN36.n, hN36.sm, hN36.ln⟩
    have x37 := x36.fr f37 (by omega)
    have hL37 := hL36.fr f37 (by omega)
    refine ⟨hN37.l.sl.rd, AlF.intro fun b4 w38 hb4e hb4 k38 s38 => ?_⟩
    have f38 : Fro (fun _ => True) w37 ow37 w38 (ext ow37 w37.heap.size 1) := Fro.of_kp0 1 k38
    have hN38 := hN37.all f38
    refine ⟨hN38.l.sl.rd, ?_⟩
    have x38 := x37.fr f38 trivial
    have hM38 := hM37.fr f38 (fun _ _ => trivial)
    have hL38 := hL37.fr f38 trivial
    generalize ext ow37 w37.heap.size 1 = ow38 at *
    refine app_c er_spd hL38 (rd_cells (xs := [.slice a' ((L[k]).l + 1) c']) hb4 rfl) rfl (fun h => by cases h) (fun u hu => by rw [List.mem_singleton] at hu; subst hu; rfl) (by omega) (by omega) fun ma' mc' w39 hL39 k39 f39 => ⟨_, _, _, rfl, ?_⟩
    have hN39 := hN38.fr f39 (by decide) (by decide) (fun x h1 h2 => by omega) (fun x hx => by omega)
    have hl37 : (D34 k).length = (L[k]).l * 2 := (hN35.f k hkl).len1
    refine ⟨hN39.l.sl.rd, ⟨k + 1, _, M ++ [⟨a', (L[k]).l + 1, c'⟩], ma', mc', _, rfl, by omega, by simp [hMl], by rw [List.map_append]; exact hL39, hN39, x38.fr f39 (by decide), hM38.fr f39 (fun j hj => by omega), fun j hj hg => ?_, fun j hj hjk i hi => ?_⟩, by simp only [Int.toNat_natCast]; omega⟩
    · by_cases hjk : j = M.length
      · subst hjk
        have e1 : (M ++ [(⟨a', (L[k]).l + 1, c'⟩ : SI)])[M.length]'(by simp) = ⟨a', (L[k]).l + 1, c'⟩ := by simp
        rw [e1]
        simp only [hMl]
      · have hj' : j < M.length := by simp at hj; omega
        rw [List.getElem_append_left hj']
        exact hlM j hj' hg
    · by_cases hjk' : j = k
      · subst hjk'
        rw [if_pos rfl]
        by_cases hil : i < (L[j]).l
        · rw [List.getElem?_append_left (by omega)]
          exact hD34 j hj i hil
        · have hie : i = (L[j]).l := by omega
          subst hie
          rw [List.getElem?_append_right (by omega), hl37, Nat.sub_self]
          rfl
      · rw [if_neg hjk']
        exact hE35 j hj (by omega) i hi
  rintro s w40 ⟨ow40, M, ma, mc, E, rfl, hMl, hL40, hN40, x40, hM40, hlM, hE40⟩ _
  dsimp only
  -- looked at
  refine ⟨fun _ w' => Kp no w40 w', ?_, ?_⟩
  · refine loopN (fun s w' => ∃ k : Nat, s.1 = (k : Int) ∧ k ≤ L.length ∧ Kp no w40 w') (fun s _ => L.length - s.1.toNat) ⟨0, rfl, by omega, Kp.refl _ _⟩ ?_
    rintro ⟨k0, u'⟩ w41 ⟨k, hk0, hk, k41⟩ _
    dsimp only at hk0 ⊢
    subst hk0
    refine cond_d (fun hlt => ?_) (fun hge => k41)
    have hkl : k < L.length := by omega
    have hkm : k < M.length := by omega
    have hsk := hsmj k hkl
    have hlk := hlM k hkm hkl
    rw [kw k (by omega)]
    refine loopN (fun s w' => ∃ i : Nat, s.1 = (i : Int) ∧ i ≤ (L[k]).l + 1 ∧ Kp no w40 w') (fun s _ => (L[k]).l + 1 - s.1.toNat) ⟨0, rfl, by omega, k41⟩ ?_
    rintro ⟨i0, u''⟩ w42 ⟨i, hi0, hi, k42⟩ _
    dsimp only at hi0 ⊢
    subst hi0
    have rM := hL40.sl.rd.kp0 k42
    have rL := hN40.l.sl.rd.kp0 k42
    refine siI rM hkm rfl hMl ?_
    rw [hlk]
    refine cond_d (fun hlt2 => ?_) (fun hge2 => ⟨⟨k + 1, rfl, by omega, k42⟩, by simp only [Int.toNat_natCast]; omega⟩)
    have hil : i < (L[k]).l + 1 := by omega
    rw [kw i (by omega)]
    have nxt : ∀ q : Nat, ((∃ i' : Nat, ((i + 1 : Nat) : Int) = (i' : Int) ∧ i' ≤ (L[k]).l + 1 ∧ Kp no w40 (w42.drewN q)) ∧ (L[k]).l + 1 - Int.toNat ((i + 1 : Nat) : Int) < (L[k]).l + 1 - Int.toNat (i : Int)) := fun q => ⟨⟨i + 1, rfl, by omega, k42.trans0 (Kp.drew w42 q)⟩, by simp only [Int.toNat_natCast]; omega⟩
    have cell : ∀ {a : Option Addr} {xs : List Value}, Rd w42 a xs → xs[i * 2]? = some (.int .i64 (mkC k (i : Int))) → ∃ b' o', a = some ⟨b', o', none⟩ ∧ w42.cell? ((⟨b', o', none⟩ : Addr).add (Int.toNat (i : Int) * 2)) = some (.int .i64 (mkC k (i : Int))) := fun hr hv => by
      obtain ⟨b', o', ha, hc⟩ := hr _ _ hv
      exact ⟨b', o', ha, by rw [Int.toNat_natCast, add_at]; exact hc⟩
    obtain ⟨bm, om, hma, hmc⟩ := cell ((hM40 k hkm).rd.kp0 k42) (hE40 k hkl i hil)
    have eM : IntKind.wrap .i64 ((IntKind.wrap .i64 ((-1000 : Int) * ((k + 1 : Nat) : Int))) - (i : Int)) = mkC k (i : Int) := rfl
    rw [eM]
    refine siI rM hkm rfl hMl ⟨by omega, by rw [hlk]; exact Int.ofNat_lt.2 hil, _, hma, mkC k (i : Int), hmc, ?_⟩
    have hlv := hD34 k hkl i
    clear hD34 hE40
    generalize mkC k (i : Int) = mm at *
    refine cond_f (bne_self_eq_false _) ?_
    refine siI rL hkl rfl rfl (cond_d (fun hlt3 => ?_) (fun hge3 => nxt))
    obtain ⟨bl, ol, hla, hlc⟩ := cell ((hN40.f k hkl).rd.kp0 k42) (hlv (by omega))
    refine siI rL hkl rfl rfl ⟨by omega, hlt3, _, hla, _, hlc, ?_⟩
    exact siI rM hkm rfl hMl ⟨by omega, by rw [hlk]; exact Int.ofNat_lt.2 hil, _, hma, _, hmc, fun q => cond_f (by simp) (nxt q)⟩
  rintro _ w43 k43 _
  have f43 : Fro (fun _ => True) w40 ow40 w43 ow40 := Fro.kp0 k43
  have hN43 := hN40.all f43
  have x43 := x40.fr f43 trivial
  refine image_c hN43.d fun a22 c22 w44 hs44 k44 fr44 => ⟨_, _, _, rfl, ?_⟩
  refine same_c hs44.rd rfl (fun h0 => sl_some' hs44 h0) (x43.sl.rd.kp0 k44) rfl (fun h0 => sl_some' x43.sl h0) ⟨_, rfl, cond_f (by simp) ?_⟩
  have hN44 := hN43.all (Fro.kp0 k44)
  refine cache_c hN44.d (by omega) fun a23 c23 Y w46 hY hYv => ⟨_, _, _, rfl, cond_f (by simp) ?_⟩
  have k4346 := k44.trans0 hY.k
  have f46 : Fro (fun _ => True) w43 ow40 w46 ow40 := Fro.kp0 k4346
  have hN46 := hN43.all f46
  have x46 := x43.fr f46 trivial
  have hok46 := hN46.d.ok
  refine load_c (ow := ow40) x46.sl.rd hlen hok.n1 hok.n2 60 fun p2 w47 ow47 hC47 k47 ho47 _ => ⟨_, _, rfl, cond_f rfl (num_c ⟨_, rfl, cond_f rfl ?_⟩)⟩
  have f47 : Fro (fun _ => True) w46 ow40 w47 ow47 := Fro.new k47 ho47
  have hN47 := hN46.all f47
  have x47 := x46.fr f47 trivial
  refine ⟨fun _ w' => ∃ ow', NR w w' ow' b N v ca cc L D34 ∧ DX w' ow' 60 p2 (Dv.load v.img), ?_, ?_⟩
  · refine loopN (fun s w' => ∃ (i : Nat) (xs : List UInt8), s.1 = (i : Int) ∧ i ≤ v.img.length ∧ SlT w' ow47 T_uint8 1 a9 v.img.length c9 (bvs xs) 9 ∧ NR w w' ow47 b N v ca cc L D34 ∧ DX w' ow47 60 p2 (Dv.load v.img)) (fun s _ => v.img.length - s.1.toNat)
      ⟨0, _, rfl, by omega, x47, hN47, hC47⟩ ?_
    rintro ⟨i0, u'⟩ w49 ⟨i, xs, hi0, hi, x49, hN49, hC49⟩ _
    dsimp only at hi0 ⊢
    subst hi0
    refine cond_d (fun hlt => ?_) (fun hge => ⟨ow47, hN49, hC49⟩)
    have hil : i < v.img.length := by omega
    have hxl : xs.length = v.img.length := by have := x49.sl.len; rwa [bvs_len] at this
    rw [kw i (by omega)]
    refine rdI x49.sl.rd (bvs_get (by omega)) rfl hil fun b1 o1 ha1 hc1 => ⟨_, hc1, by omega, hlt, _, ha1, ?_⟩
    have e1 : (Value.int .u8 (IntKind.wrap .u8 (((xs[i]'(by omega)).toNat : Int) + 1))) = bv ((xs[i]'(by omega)) + 1) := by
      have := bump_u8 (xs[i]'(by omega))
      exact this
    rw [e1]
    refine slt_put x49 ha1 (i := i) hil (by rw [Int.toNat_natCast, add_at]) fun w50 x50 f50 => ?_
    rw [bvs_set] at x50
    exact ⟨⟨i + 1, _, rfl, by omega, x50, hN49.fr f50 (by decide) (by decide) (fun x h1 h2 => by omega) (fun x hx => by omega), hC49.fr f50 (by decide) (by decide) (by decide) (by decide)⟩, by simp only [Int.toNat_natCast]; omega⟩
  rintro _ w51 ⟨ow51, hN51, hC51⟩ _
  refine image_c hC51 fun a24 c24 w52 hs52 k52 fr52 => ⟨_, _, _, rfl, ?_⟩
  refine image_c (hN51.d.kp0 k52) fun a25 c25 w53 hs53 k53 fr53 => ⟨_, _, _, rfl, ?_⟩
  refine same_c (hs52.rd.kp0 k53) rfl (fun h0 => sl_some' hs52 h0) hs53.rd rfl (fun h0 => sl_some' hs53 h0) ⟨_, rfl, ?_⟩
  have := h w53 (hN51.o.kp.trans0 (k52.trans0 k53))
  have e : decide ((Dv.load v.img).img = v.img) = true := decide_eq_true rfl
  rw [e]
  exact this
theorem sectorsNewMemory_walk {W : World} {v0 v1 v2 : Value} (h0 : ArgW Try.prog W T_int v0) (h1 : ArgW Try.prog W T_s_quotalaw03_Put v1) (h2 : ArgW Try.prog W T_s_quotalaw03_Put v2) :
    GoC Try.prog F_law03_SectorsNewMemory #[v0, v1, v2] W fun e W' => e = .returned (.bool true) ∧ Kp no W W' := by
  obtain ⟨n, rfl, w0⟩ := h0.arg.int (k := .i64) (by kernel_rfl)
  obtain ⟨a1, l1, c1, L1, rfl, p1⟩ := puts_open h1
  obtain ⟨a2, l2, c2, L2, rfl, p2⟩ := puts_open h2
  exact newmem_c (i64_wf w0) p1 p2 fun w' k => ⟨rfl, k⟩
end Go.Proofs.Ytkhdmbgcbogndaa
