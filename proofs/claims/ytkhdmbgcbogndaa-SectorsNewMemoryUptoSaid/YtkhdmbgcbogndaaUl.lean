/- The statement SectorsNewMemory: what is held beside the disk. Conditions: none. -/
import Derived.Test.YtkhdmbgcbogndaaUk
set_option linter.unusedVariables false
set_option linter.unusedSimpArgs false
namespace Go.Proofs.Ytkhdmbgcbogndaa
open Go Go.RowKit

theorem er_spd : ElemRow Try.prog T_s_s_api_Pending T_s_api_Pending (.slice none 0 0) 1 24 := elemRow (by kernel_rfl) (by kernel_rfl) rfl

/-- The disk, and the lists of pending writes that were handed out. -/
structure NR (w0 w : World) (ow : Nat → Nat) (b N : Nat) (v : Dv) (ca : Option Addr) (cc : Nat) (L : List SI) (D : Nat → List Value) : Prop where
  d : DX w ow 50 b v
  o : Old w0 w ow
  l : SlT w ow T_s_api_Pending 1 ca L.length cc (L.map siV) 7
  f : Fam w ow T_api_Pending 2 2000 L D
  dn : v.down = false
  st : v.step = 0
  kp : v.keep = []
  n : v.n = N
  sm : ∀ x ∈ L, x.l ≤ 1000
  ln : L.length ≤ 6
theorem NR.fr {T : Nat → Prop} {w0 w w' : World} {ow ow' : Nat → Nat} {b N cc : Nat} {v : Dv} {ca : Option Addr} {L : List SI} {D : Nat → List Value} (h : NR w0 w ow b N v ca cc L D) (f : Fro T w ow w' ow') (h0 : T 0) (h7 : T 7) (h5 : ∀ x, 50 ≤ x → x ≤ 53 → T x) (h2 : ∀ x, 2000 ≤ x → T x) : NR w0 w' ow' b N v ca cc L D :=
  ⟨h.d.fr f (h5 _ (by omega) (by omega)) (h5 _ (by omega) (by omega)) (h5 _ (by omega) (by omega)) (h5 _ (by omega) (by omega)), h.o.fr f h0, h.l.fr f h7, h.f.fr f (fun j hj => h2 _ (by omega)), h.dn, h.st, h.kp, h.n, h.sm, h.ln⟩
theorem NR.all {w0 w w' : World} {ow ow' : Nat → Nat} {b N cc : Nat} {v : Dv} {ca : Option Addr} {L : List SI} {D : Nat → List Value} (h : NR w0 w ow b N v ca cc L D) (f : Fro (fun _ => True) w ow w' ow') : NR w0 w' ow' b N v ca cc L D := h.fr f trivial trivial (fun _ _ _ => trivial) fun _ _ => trivial
theorem HS.all {w w' : World} {ow ow' : Nat → Nat} {hb gc wc : Nat} {ga wa : Option Addr} {G W : List SI} {C : Nat → List UInt8} (h : HS w ow hb ga gc wa wc G W C) (f : Fro (fun _ => True) w ow w' ow') : HS w' ow' hb ga gc wa wc G W C := h.fr f (fun _ _ _ => trivial) fun _ _ => trivial

set_option maxRecDepth 100000 in
/-- What is handed out is taken; the disk stays. -/
theorem takeR_c {w0 w : World} {ow : Nat → Nat} {b N cc hb gc wc l c : Nat} {v : Dv} {a ca ga wa : Option Addr} {L G W : List SI} {D : Nat → List Value} {C : Nat → List UInt8} {bs : List UInt8} {R : Ending → World → Prop} (hN : NR w0 w ow b N v ca cc L D) (hH : HS w ow hb ga gc wa wc G W C)
    (hx : SlQ w ow T_uint8 1 a l c (bvs bs) (100 + G.length)) (hn : G.length < 1000) (hl : l ≤ 100000)
    (hK : ∀ ga' gc' wa' wc' x C' w' ow', NR w0 w' ow' b N v ca cc L D → HS w' ow' hb ga' gc' wa' wc' (G ++ [⟨a, l, c⟩]) (W ++ [x]) C' → Fro (fun u => u ≠ 2 ∧ u ≠ 3 ∧ u ≠ 4) w ow w' ow' → R (.returned (.tuple #[])) w') :
    GoC Try.prog F_law03_Held_take #[.pointer (some ⟨hb, 0, none⟩), .slice a l c] w R :=
  take_c hH hx hn hl fun ga' gc' wa' wc' x w' ow' hH' f' => hK ga' gc' wa' wc' x _ w' ow' (hN.fr f' (by decide) (by decide) (fun x h1 h2 => by omega) fun x hx => by omega) hH' f'

/-- What the rounds leave. -/
def NMs (w0 : World) (b N hb : Nat) (m : Nat) (ca : Option Addr) (cl cc : Nat) (v : Dv) (w : World) : Prop :=
  ∃ (ow : Nat → Nat) (ga : Option Addr) (gc : Nat) (wa : Option Addr) (wc : Nat) (G W : List SI) (C : Nat → List UInt8) (L : List SI) (D : Nat → List Value),
    NR w0 w ow b N v ca cc L D ∧ HS w ow hb ga gc wa wc G W C ∧ G.length ≤ 66 * m ∧ L.length = m ∧ L.length = cl

set_option maxRecDepth 100000 in
/-- One turn: the image, the cache and the sectors are asked and held. -/
theorem turn_c {w0 w : World} {b N hb m cc : Nat} {v : Dv} {ca : Option Addr} {R : Ending → World → Prop} {K : Option Addr → Nat → Nat → World → Prop} (hN5 : 1 ≤ N ∧ N ≤ 5) (hm : m < 6) (h : NMs w0 b N hb m ca m cc v w) (hq : v.q.length ≤ 60)
    (hK : ∀ ca' cc' w', NMs w0 b N hb (m + 1) ca' (m + 1) cc' v w' → K ca' (m + 1) cc' w') :
    (CallF Try.prog F_sectors_Device_Image #[(.pointer (some ⟨b, 0, none⟩))] w (fun r7 w11 => ∃ (a3 : Option Addr) (l3 c3 : Nat), r7 = (.slice a3 l3 c3) ∧ (CallF Try.prog F_law03_Held_take #[(.pointer (some ⟨hb, 0, none⟩)), (.slice a3 l3 c3)] w11 (fun r8 w12 => r8 = (.tuple #[]) ∧ (CallF Try.prog F_sectors_Device_Cache #[(.pointer (some ⟨b, 0, none⟩))] w12 (fun r9 w13 => ∃ (a4 : Option Addr) (l4 c4 : Nat), r9 = (.slice a4 l4 c4) ∧ (AlF w13 (.cells #[(.slice a4 l4 c4)] T_s_api_Pending) fun b2 w14 => (RunF Try.prog (Builtin.append_ #[T_s_s_api_Pending, T_s_s_api_Pending] T_s_s_api_Pending #[(.slice ca m cc), (.slice (some ⟨b2, 0, none⟩) 1 1)]) w14 fun r10 w15 => ∃ (a5 : Option Addr) (l5 c5 : Nat), r10 = (.slice a5 l5 c5) ∧ (LoopF (S := Int × Unit) ((0 : Int), ()) w15 fun s22 w16 Next22 => ∀ _J : Env, (cond (decide (s22.1 < ((l4 : Nat) : Int))) (IdxF a4 s22.1 l4 fun d1 => (∃ (a6 : Option Addr) (l6 c6 : Nat), w16.cell? (Addr.add (d1.add (Int.toNat s22.1 * 2)) 1) = some (.slice a6 l6 c6) ∧ (CallF Try.prog F_law03_Held_take #[(.pointer (some ⟨hb, 0, none⟩)), (.slice a6 l6 c6)] w16 (fun r11 w17 => r11 = (.tuple #[]) ∧ (Next22 ((IntKind.wrap .i64 (s22.1 + (1 : Int))), ()) w17)) (PanF R)))) (LoopF (S := Int × Unit) ((0 : Int), ()) w16 fun s26 w18 Next26 => ∀ _J : Env, (cond (decide (s26.1 < (N : Int))) (CallF Try.prog F_sectors_Device_Read #[(.pointer (some ⟨b, 0, none⟩)), (.int .i64 s26.1)] w18 (fun r12 w19 => ∃ (a7 : Option Addr) (l7 c7 : Nat) (n6 : Int), r12 = (.tuple #[(.slice a7 l7 c7), (.int .i64 n6)]) ∧ (CallF Try.prog F_law03_num #[(.int .i64 n6)] w19 (fun r13 w20 => ∃ (n7 : Int), r13 = (.int .i64 n7) ∧ (cond (n7 != (0 : Int)) (R (.returned (.bool false)) w20) (CallF Try.prog F_law03_Held_take #[(.pointer (some ⟨hb, 0, none⟩)), (.slice a7 l7 c7)] w20 (fun r14 w21 => r14 = (.tuple #[]) ∧ (Next26 ((IntKind.wrap .i64 (s26.1 + (1 : Int))), ()) w21)) (PanF R)))) (PanF R))) (PanF R)) (K a5 l5 c5 w18)))))))) (PanF R))) (PanF R))) (PanF R)) := by
  obtain ⟨ow, ga, gc, wa, wc, G, W, C, L, D, hN, hH, hGl, hLm, _⟩ := h
  subst hLm
  have hok := hN.d.ok
  have hlen := hok.len
  have hn := hN.n
  have kw : ∀ k : Nat, k ≤ 100000 → IntKind.wrap .i64 ((k : Int) + 1) = ((k + 1 : Nat) : Int) := fun k hk => by rw [wrap_i64 (by omega) (by omega)]; omega
  refine image_c hN.d fun a3 c3 w11 hs3 k3 fr3 => ⟨_, _, _, rfl, ?_⟩
  -- the image is held
  have f3 : Fro (fun _ => True) w ow w11 (ext ow w.heap.size (100 + G.length)) := Fro.of_kp0 _ k3
  have x3 : SlT w11 (ext ow w.heap.size (100 + G.length)) T_uint8 1 a3 v.img.length c3 (bvs v.img) (100 + G.length) := SlT.new hs3 fr3 _
  have x3' : SlQ w11 (ext ow w.heap.size (100 + G.length)) T_uint8 1 a3 v.img.length v.img.length (bvs v.img) (100 + G.length) := .inr ⟨rfl, by have := hok.n1; omega, c3, x3⟩
  refine takeR_c (hN.all f3) (hH.all f3) x3' (by omega) (by omega) fun ga4 gc4 wa4 wc4 y4 C4 w12 ow12 hN4 hH4 f4 => ⟨rfl, ?_⟩
  generalize hG4 : G ++ [(⟨a3, v.img.length, v.img.length⟩ : SI)] = G4 at *
  have hG4l : G4.length = G.length + 1 := by rw [← hG4]; simp
  generalize W ++ [y4] = W4 at *
  clear x3 x3'
  -- the cache
  refine cache_c hN4.d (by omega) fun a5 c5 X w13 hX hXv => ⟨_, _, _, rfl, ?_⟩
  have hXn := hX.n
  have szX : ∀ x ∈ X, x.bs.length = 512 := fun x hx => (hok.q x.v (by rw [← hXv]; exact List.mem_map_of_mem hx)).2.2
  obtain ⟨ow13, f13, x5, xX⟩ : ∃ ow13, Fro (fun _ => True) w12 ow12 w13 ow13 ∧ SlT w13 ow13 T_api_Pending 2 a5 v.q.length c5 (fP X) (2000 + L.length) ∧ ∀ x ∈ X, SlT w13 ow13 T_uint8 1 x.a x.bs.length x.c (bvs x.bs) 8 := by
    refine ⟨tag (Is a5) (2000 + L.length) (ext ow12 w12.heap.size 8), Fro.new hX.k fun j hj => ?_, ⟨hX.s, fun j hj => tag_in hj⟩, fun x hx => ?_⟩
    · rw [tag_out fun hh => by have := hX.f j hh; omega, ext_old hj]
    · obtain ⟨q1, q2, q3⟩ := hX.x x hx
      exact ⟨q1, fun j hj => by rw [tag_out (q3 j hj), ext_new (q2 j hj)]⟩
  have hN13 := hN4.all f13
  have hH13 := hH4.all f13
  refine pushT er_spd hN13.l (v := .slice a5 v.q.length c5) rfl (by omega) (by omega) fun ca' cc' w15 hl15 k15 f15 => ?_
  have x15 := x5.fr f15 (by omega)
  have xX15 : ∀ x ∈ X, SlT w15 _ T_uint8 1 x.a x.bs.length x.c (bvs x.bs) 8 := fun x hx => (xX x hx).fr f15 (by decide)
  have hH15 := hH13.fr f15 (fun x h1 h2 => by omega) (fun x hx => by omega)
  have hN15 : NR w0 w15 (ext ow13 w13.heap.size 7) b N v ca' cc' (L ++ [⟨a5, v.q.length, c5⟩]) (fun j => if j = L.length then fP X else D j) := by
    have g : DX w15 (ext ow13 w13.heap.size 7) 50 b v := hN13.d.fr f15 (by decide) (by decide) (by decide) (by decide)
    refine ⟨g, hN13.o.fr f15 (by decide), by rw [List.map_append, List.length_append]; exact hl15, (hN13.f.fr f15 (fun j hj => by omega)).snoc (x := ⟨a5, v.q.length, c5⟩) x15.q, hN13.dn, hN13.st, hN13.kp, hN13.n, fun x hx => ?_, by simp; omega⟩
    rcases List.mem_append.1 hx with hx | hx
    · exact hN13.sm x hx
    · rw [List.mem_singleton] at hx
      subst hx
      show v.q.length ≤ 1000
      omega
  generalize ext ow13 w13.heap.size 7 = ow15 at *
  generalize hL' : L ++ [(⟨a5, v.q.length, c5⟩ : SI)] = L' at *
  have hL'l : L'.length = L.length + 1 := by rw [← hL']; simp
  have hLg : ∀ (h : L.length < L'.length), L'[L.length] = ⟨a5, v.q.length, c5⟩ := fun h => by subst hL'; simp
  generalize hD' : (fun j => if j = L.length then fP X else D j) = D' at *
  have hDX : D' L.length = fP X := by rw [← hD']; simp
  clear hL' hD' hN13 hH13 hN4 hH4 x5 xX
  -- its bytes are held
  refine loopN (fun s w' => ∃ (k : Nat) (ow' : Nat → Nat) (ga : Option Addr) (gc : Nat) (wa : Option Addr) (wc : Nat) (G W : List SI) (C : Nat → List UInt8), s.1 = (k : Int) ∧ k ≤ X.length ∧ NR w0 w' ow' b N v ca' cc' L' D' ∧ HS w' ow' hb ga gc wa wc G W C ∧ G.length = G4.length + k ∧ ∀ j (hj : j < X.length), k ≤ j → SlT w' ow' T_uint8 1 (X[j]).a (X[j]).bs.length (X[j]).c (bvs (X[j]).bs) 8) (fun s _ => X.length - s.1.toNat)
    ⟨0, ow15, _, _, _, _, _, _, _, rfl, by omega, hN15, hH15, rfl, fun j hj _ => xX15 _ (List.getElem_mem hj)⟩ ?_
  rintro ⟨k0, u'⟩ w16 ⟨k, ow16, ga6, gc6, wa6, wc6, G6, W6, C6, hk0, hk, hN16, hH16, hG6, hX16⟩ _
  dsimp only at hk0 ⊢
  subst hk0
  refine cond_d (fun hlt => ?_) (fun hge => ?_)
  · have hkl : k < X.length := by omega
    rw [kw k (by omega)]
    have hcl := hN16.f L.length (by omega)
    rw [hLg (by omega), hDX] at hcl
    obtain ⟨bq, oq, hqa, q0, q1⟩ := pdA hcl.rd hkl
    refine ⟨by omega, by omega, _, hqa, _, _, _, by rw [Int.toNat_natCast]; exact q1, ?_⟩
    have h512 := szX _ (List.getElem_mem hkl)
    obtain ⟨xk, fk⟩ := (hX16 k hkl (Nat.le_refl _)).retag (100 + G6.length)
    have hNk := hN16.fr fk (by decide) (by decide) (fun x h1 h2 => by omega) fun x hx => by omega
    have hHk := hH16.fr fk (fun x h1 h2 => by omega) fun x hx => by omega
    have hXk : ∀ j (hj : j < X.length), k + 1 ≤ j → SlT w16 (tag (Is (X[k]).a) (100 + G6.length) ow16) T_uint8 1 (X[j]).a (X[j]).bs.length (X[j]).c (bvs (X[j]).bs) 8 := fun j hj hkj => by
      refine (hX16 j hj (by omega)).apart fun i hi hi' => ?_
      exact (List.pairwise_iff_getElem.1 hX.d k j hkl hj (by omega)) i hi' hi
    refine takeR_c hNk hHk xk.q (by omega) (by omega) fun ga7 gc7 wa7 wc7 y7 C7 w17 ow17 hN17 hH17 f17 => ⟨rfl, ⟨k + 1, ow17, _, _, _, _, _, _, _, rfl, by omega, hN17, hH17, by simp; omega, fun j hj hkj => (hXk j hj hkj).fr f17 (by decide)⟩, by simp only [Int.toNat_natCast]; omega⟩
  -- the sectors
  have hke : k = X.length := by omega
  subst hke
  clear hX16
  refine loopN (fun s w' => ∃ (i : Nat) (ow' : Nat → Nat) (ga : Option Addr) (gc : Nat) (wa : Option Addr) (wc : Nat) (G W : List SI) (C : Nat → List UInt8), s.1 = (i : Int) ∧ i ≤ N ∧ NR w0 w' ow' b N v ca' cc' L' D' ∧ HS w' ow' hb ga gc wa wc G W C ∧ G.length = G6.length + i) (fun s _ => N - s.1.toNat)
    ⟨0, ow16, _, _, _, _, _, _, _, rfl, by omega, hN16, hH16, rfl⟩ ?_
  rintro ⟨i0, u''⟩ w18 ⟨i, ow18, ga8, gc8, wa8, wc8, G8, W8, C8, hi0, hi, hN18, hH18, hG8⟩ _
  dsimp only at hi0 ⊢
  subst hi0
  refine cond_d (fun hlt => ?_) (fun hge => ?_)
  · rw [kw i (by omega)]
    have hth : v.there (i : Int) := ⟨by omega, by rw [hn]; exact hlt⟩
    have hrd : v.read (i : Int) = (readL (i : Int) v.q (v.sect i), 0) := by unfold Dv.read; rw [hN.dn, if_neg (by decide), if_neg (by simpa using hth), Int.toNat_natCast]
    refine readX_c hN18.d (by omega) fun a7 l7 c7 w19 k19 hs19 fr19 => ⟨_, _, _, _, rfl, num_c ⟨_, rfl, cond_f (by rw [hrd]; rfl) ?_⟩⟩
    have f19 : Fro (fun _ => True) w18 ow18 w19 (ext ow18 w18.heap.size (100 + G8.length)) := Fro.of_kp0 _ k19
    have x19 : SlT w19 (ext ow18 w18.heap.size (100 + G8.length)) T_uint8 1 a7 l7 c7 (bvs (v.read (i : Int)).1) (100 + G8.length) := SlT.new hs19 fr19 _
    have hl7 : l7 ≤ 512 := by
      have h1 := hs19.len
      rw [bvs_len, hrd] at h1
      dsimp only at h1
      have h2 : ∀ (q : List (Int × List UInt8)) (B : List UInt8), (∀ p ∈ q, p.2.length = 512) → B.length ≤ 512 → (readL (i : Int) q B).length ≤ 512 := by
        intro q
        induction q with
        | nil => intro B _ hB; exact hB
        | cons p r ih =>
          intro B hp hB
          rw [readL]
          refine ih _ (fun x hx => hp x (by simp [hx])) ?_
          split
          · rw [hp p (by simp)]; omega
          · exact hB
      have h3 := h2 v.q (v.sect i) (fun p hp => (hok.q p hp).2.2) (by unfold Dv.sect; rw [List.length_take]; omega)
      omega
    refine takeR_c (hN18.all f19) (hH18.all f19) x19.q (by omega) (by omega) fun ga9 gc9 wa9 wc9 y9 C9 w20 ow20 hN20 hH20 f20 => ⟨rfl, ⟨i + 1, ow20, _, _, _, _, _, _, _, rfl, by omega, hN20, hH20, by simp; omega⟩, by simp only [Int.toNat_natCast]; omega⟩
  · exact hK ca' cc' w18 ⟨ow18, _, _, _, _, _, _, _, L', D', hN18, hH18, by omega, by omega, by omega⟩
end Go.Proofs.Ytkhdmbgcbogndaa
