/- The program logic and the contracts that a law leans on, part 3. -/
import Derived.Test.YtoijfbdjlagooaaA2

/- Contracts: long division, the digits. -/
namespace Go.Proofs.Ytoijfbdjlagooaa
open Go Go.RowKit
set_option linter.unusedVariables false
set_option linter.unusedSimpArgs false
set_option maxRecDepth 100000

set_option maxHeartbeats 3000000 in
theorem digit_loop {f n nA lq V v1 v2 v3 A : Nat} {u0 q0 : List Nat} (hc : DivC f n nA lq V v1 v2 v3 A) (hul0 : u0.length = nA + 2) (hu0 : okL u0) (hql0 : q0.length = lq) (hq0 : okL q0) (hud0 : val (u0.drop lq) < V)
    (hval0 : val u0 + V * val q0 = A) (hqz0 : ∀ k, k < lq → q0.getD k 0 = 0) :
    VLoop EE Try.f102.ntmps none (nthLoop Try.f102 0) (fun e s => e = .exit 0 ∧ ∃ y : List Nat × List Nat, (y.1.length = nA + 2 ∧ okL y.1 ∧ y.2.length = lq ∧ okL y.2 ∧ val y.1 < V ∧ val y.1 + V * val y.2 = A) ∧
      Meets ⟨[(4, .osl 2 0 0 lq 1), (8, .int .u64 f), (9, .osl 0 1 0 (nA + 2) 1)], dHp y.1 y.2, []⟩ s)
      ⟨dFr f n nA lq V v1 v2 ((lq : Int) - 1), dHp u0 q0, []⟩ := by
  have hn := hc.hn
  have hnn := hc.hnn
  have hnA := hc.hnA
  have hnA2 := hc.hnA2
  have hlq := hc.hlq
  have hv1 := hc.hv1
  have hv10 := hc.hv10
  have hv2 := hc.hv2
  have hVv := val_dg V
  have hV0' := hc.hV0
  have hVpow := hc.hVpow
  have hBB : BB = 1000000000 := rfl
  have hP : 0 < BB ^ (n - 2) := Nat.pow_pos (by decide)
  refine VLoop.ix true (fun x : Nat × List Nat × List Nat => ⟨dFr f n nA lq V v1 v2 ((x.1 : Int) - 1), dHp x.2.1 x.2.2, []⟩)
    (fun x => x.1 ≤ lq ∧ x.2.1.length = nA + 2 ∧ okL x.2.1 ∧ x.2.2.length = lq ∧ okL x.2.2 ∧ val (x.2.1.drop x.1) < V ∧ val x.2.1 + V * val x.2.2 = A ∧ ∀ k, k < x.1 → x.2.2.getD k 0 = 0) (fun x => x.1) (lq, u0, q0)
    ⟨Nat.le_refl _, hul0, hu0, hql0, hq0, hud0, hval0, hqz0⟩ ⟨⟨rfl, rfl, rfl, rfl, rfl, rfl, rfl, rfl, trivial⟩, rfl, rfl⟩ ?_
  rintro ⟨i, u, q⟩ ⟨hi, hul, hu, hql, hq, hud, hval, hqz⟩
  dsimp only at hi hul hu hql hq hud hval hqz ⊢
  repeat' ((conv => whnf); first | refine ngo ?_ | refine VB.tt ?_ | refine VB.ff ?_ | refine VNew.keep ?_ | refine dgo ?_ | refine sgo ?_ | fail)
  conv => whnf
  refine VB.dec (fun hi0 => ?_) (fun hi0 => ?_)
  · obtain ⟨i, rfl⟩ : ∃ k, i = k + 1 := ⟨i - 1, by omega⟩
    have ei : ((i + 1 : Nat) : Int) - 1 = (i : Int) := by omega
    rw [ei]
    have ex0 : ((i : Int) + (n : Int)).toNat = i + n := by omega
    have ex1 : ((i : Int) + (n : Int) - 1).toNat = i + n - 1 := by omega
    have ex2 : ((i : Int) + (n : Int) - 2).toNat = i + n - 2 := by omega
    have gx0 : getInt (List.drop (0 + ((i : Int) + (n : Int)).toNat * 1) (limbs u)) = ((u.getD (i + n) 0 : Nat) : Int) := by rw [ex0, Nat.zero_add, Nat.mul_one, getInt_limbs]
    have gx1 : getInt (List.drop (0 + ((i : Int) + (n : Int) - 1).toNat * 1) (limbs u)) = ((u.getD (i + n - 1) 0 : Nat) : Int) := by rw [ex1, Nat.zero_add, Nat.mul_one, getInt_limbs]
    have gx2 : getInt (List.drop (0 + ((i : Int) + (n : Int) - 2).toNat * 1) (limbs u)) = ((u.getD (i + n - 2) 0 : Nat) : Int) := by rw [ex2, Nat.zero_add, Nat.mul_one, getInt_limbs]
    have hx0 := getD_lt hu (i + n)
    have hx1 := getD_lt hu (i + n - 1)
    have hx2 := getD_lt hu (i + n - 2)
    have hwl : ((u.drop i).take (n + 1)).length = n + 1 := by rw [List.length_take, List.length_drop]; omega
    have hU := three_split hwl (by omega)
    have hwg : ∀ k, k < n + 1 → ((u.drop i).take (n + 1)).getD k 0 = u.getD (i + k) 0 := fun k hk => by
      simp [List.getD_eq_getElem?_getD, List.getElem?_take, hk, List.getElem?_drop]
    rw [hwg n (by omega), hwg (n - 1) (by omega), hwg (n - 2) (by omega), List.take_take, Nat.min_eq_left (by omega), show i + (n - 1) = i + n - 1 by omega, show i + (n - 2) = i + n - 2 by omega] at hU
    have hu3 : val ((u.drop i).take (n - 2)) < BB ^ (n - 2) := by
      have := val_lt ((hu.drop i).take (n - 2))
      rwa [List.length_take, List.length_drop, Nat.min_eq_left (by omega)] at this
    have hui : val (u.drop i) = u.getD i 0 + BB * val (u.drop (i + 1)) := by
      rw [List.drop_eq_getElem_cons (by omega), val]
      simp [List.getD_eq_getElem?_getD, show i < u.length by omega]
    have hxi := getD_lt hu i
    have hUV : val (u.drop i) < V * BB := by
      have h1 : BB * (val (u.drop (i + 1)) + 1) ≤ BB * V := Nat.mul_le_mul_left _ hud
      rw [Nat.mul_comm V BB]
      rw [Nat.mul_add] at h1
      omega
    have hUs : seg u i (n + 1) = val (u.drop i) := by
      unfold seg
      rw [val_take (hu.drop i)]
      refine Nat.mod_eq_of_lt (Nat.lt_of_lt_of_le hUV ?_)
      rw [Nat.pow_succ]
      exact Nat.mul_le_mul_right _ (Nat.le_of_lt hVpow)
    have hU' : seg u i (n + 1) = val ((u.drop i).take (n + 1)) := rfl
    rw [← hU', hUs] at hU
    generalize hU0 : val (u.drop i) = U at *
    generalize u.getD (i + n) 0 = x0 at *
    generalize u.getD (i + n - 1) 0 = x1 at *
    generalize hx2e : u.getD (i + n - 2) 0 = x2 at *
    generalize val ((u.drop i).take (n - 2)) = u3 at *
    obtain ⟨top, htop⟩ : ∃ top, top = x0 * BB + x1 := ⟨_, rfl⟩
    have gt : (x0 : Int) * 1000000000 + (x1 : Int) = (top : Int) := by rw [htop]; simp
    rw [← htop] at hU
    have htb : top < (v1 + 1) * BB := kn_top hc.hsp hU hP (by decide) hv2 hc.hv3 hUV
    have htb2 : top < BB * BB := Nat.lt_of_lt_of_le htb (Nat.mul_le_mul_right _ hv1)
    have hBB2 : BB * BB = 1000000000000000000 := rfl
    have hfst := kn_first hc.hsp hU (by omega) (by decide) hP hx2 hu3
    have g5 := tdiv_nat top v1
    have g6 := tmod_nat top v1
    have hdm := Nat.div_add_mod top v1
    have hdl := Nat.div_le_self top v1
    have hml := Nat.mod_lt top (show 0 < v1 by omega)
    generalize top / v1 = gs at *
    generalize top % v1 = rs at *
    repeat' ((conv => whnf); first | refine ngo ?_ | refine VB.tt ?_ | refine VB.ff ?_ | refine VNew.keep ?_ | refine dgo ?_ | refine sgo ?_ | fail)
    conv => whnf
    rw [gx0]
    repeat' ((conv => whnf); first | refine ngo ?_ | refine VB.tt ?_ | refine VB.ff ?_ | refine VNew.keep ?_ | refine dgo ?_ | refine sgo ?_ | fail)
    conv => whnf
    rw [gx1]
    repeat' ((conv => whnf); first | refine ngo ?_ | refine VB.tt ?_ | refine VB.ff ?_ | refine VNew.keep ?_ | refine dgo ?_ | refine sgo ?_ | fail)
    conv => whnf
    rw [gt]
    repeat' ((conv => whnf); first | refine ngo ?_ | refine VB.tt ?_ | refine VB.ff ?_ | refine VNew.keep ?_ | refine dgo ?_ | refine sgo ?_ | fail)
    conv => whnf
    rw [g5]
    repeat' ((conv => whnf); first | refine ngo ?_ | refine VB.tt ?_ | refine VB.ff ?_ | refine VNew.keep ?_ | refine dgo ?_ | refine sgo ?_ | fail)
    conv => whnf
    refine VLoop.use (guess_loop (A := A) (q := q) (gs := gs) (rs := rs) hc hul hu (by omega) hU hu3 hx2 hx2e htb htb2 hml (by rw [Nat.mul_comm]; exact hdm) hfst hUV) ⟨⟨rfl, by simp [lk, g6], rfl, rfl, rfl, rfl, rfl, rfl, rfl, rfl, trivial⟩, rfl, rfl⟩ ?_
    · rintro g ⟨hgB, hq1, hq2⟩
      repeat' ((conv => whnf); first | refine ngo ?_ | refine VB.tt ?_ | refine VB.ff ?_ | refine VNew.keep ?_ | refine dgo ?_ | refine sgo ?_ | fail)
      conv => whnf
      have hBB2' : BB * BB = 1000000000000000000 := hBB2
      have hV0' : 0 < V := by omega
      have hdm2 := Nat.div_add_mod U V
      have hml2 := Nat.mod_lt U hV0'
      have eo1 : 0 + (i : Int).toNat * 1 = i := by omega
      have eo2 : ((i : Int) + (n : Int) + 1).toNat - (i : Int).toNat = n + 1 := by omega
      have hlt : val (dg V) * g < BB ^ (n + 1) := by
        rw [hVv, Nat.pow_succ]
        exact Nat.mul_lt_mul'' hVpow hgB
      have hb := borrowed_own (R := [.cells 0 41 [AV.int .u32 0, AV.int .u32 0], .cells 0 41 (limbs q)]) (ver := 1) (e := 41) (l := u) (v := dg V) (j := i) (m := n + 1) (by_ := g) hu (canon_dg V).1 hgB (by omega) (by omega) (by omega) hlt
      rw [show natL (dg V) = .dsl (limbs (dg V)) n by rw [hnn]; rfl] at hb
      rw [eo1, eo2]
      refine hb.mono fun r H' hq' => ?_
      obtain ⟨u1, b1, hul1, hu1, hs1, rfl, rfl, heq⟩ := hq'
      rw [hVv, hUs, Nat.mul_comm V g] at heq
      clear gx0 gx1 gx2 g5 g6 gt hb
      cases b1 with
      | false =>
        have hgd : g = U / V := by
          have h1 : g * V ≤ U := by simp at heq; omega
          have := (Nat.le_div_iff_mul_le hV0').2 h1
          omega
        have hsm : seg u1 i (n + 1) = U % V := by
          simp at heq
          rw [hgd, Nat.mul_comm] at heq
          omega
        obtain ⟨hr1, hr2⟩ := kn_done (by omega) (by omega) hs1 hV0' hUs hU0 hsm hgd (hqz i (by omega)) (by omega) hval
        repeat' ((conv => whnf); first | refine ngo ?_ | refine VB.tt ?_ | refine VB.ff ?_ | refine VNew.keep ?_ | refine dgo ?_ | refine sgo ?_ | fail)
        conv => whnf
        refine ⟨(i, u1, q.set i g), ⟨by dsimp only; omega, by dsimp only; omega, hu1, by dsimp only; rw [List.length_set]; exact hql, okL_set hq _ (by omega), hr1, hr2, ?_⟩, by dsimp only; omega, ⟨⟨rfl, rfl, rfl, rfl, rfl, rfl, rfl, rfl, trivial⟩, ?_, rfl⟩⟩
        · intro k' hk'
          dsimp only at hk' ⊢
          rw [getD_set_ne' (by omega)]
          exact hqz k' (by omega)
        · show [_, _, AObj.cells _ _ (splice _ _ _)] = _
          rw [eo1, splice_limbs (by omega)]
          rfl
      | true =>
        rw [if_pos rfl] at heq
        have hgd : g = U / V + 1 := by
          have h1 := val_lt ((hu1.drop i).take (n + 1))
          rw [List.length_take, List.length_drop, Nat.min_eq_left (by omega)] at h1
          have h1 : seg u1 i (n + 1) < BB ^ (n + 1) := h1
          have h2 : U < g * V := by omega
          have := (Nat.div_lt_iff_lt_mul hV0').2 h2
          omega
        have hsV : seg u1 i (n + 1) + V = U % V + BB ^ (n + 1) := by
          rw [hgd, Nat.add_mul, Nat.mul_comm, Nat.one_mul] at heq
          omega
        have hs1n := seg_succ (l := u1) (j := i) (i := n) (by omega)
        have hw := getD_lt hu1 (i + n)
        generalize hwe : u1.getD (i + n) 0 = w at *
        have hg1 : 1 ≤ g := by rw [hgd]; exact Nat.succ_pos _
        have eg1 : (g : Int) - 1 = ((g - 1 : Nat) : Int) := by omega
        repeat' ((conv => whnf); first | refine ngo ?_ | refine VB.tt ?_ | refine VB.ff ?_ | refine VNew.keep ?_ | refine dgo ?_ | refine sgo ?_ | fail)
        conv => whnf
        refine VLoop.use (back_loop (A := A) (g := g - 1) (q := q) hc (by omega) hu1 (by omega)) ⟨⟨rfl, rfl, rfl, by simp [lk]; omega, rfl, rfl, rfl, rfl, rfl, rfl, rfl, rfl, trivial⟩, rfl, rfl⟩ ?_
        rintro ⟨u2, c⟩ ⟨hul2, hu2, hcc, hs2, heq2⟩
        dsimp only at hul2 hu2 hcc hs2 heq2 ⊢
        have hgd' : g - 1 = U / V := by omega
        generalize g - 1 = g' at *
        have hwn := hs2 (i + n) (.inr (Nat.le_refl _))
        rw [hwe] at hwn
        have hs2l := val_lt ((hu2.drop i).take n)
        rw [List.length_take, List.length_drop, Nat.min_eq_left (by omega)] at hs2l
        have hs2l : seg u2 i n < BB ^ n := hs2l
        obtain ⟨he1, he2⟩ := split_unique (P := BB ^ n) (s := seg u2 i n) (c := c + w) (R := U % V) (B := BB) (by rw [Nat.mul_add, show BB ^ n * BB = BB ^ (n + 1) from (Nat.pow_succ ..).symm]; omega) hs2l (by omega)
        have ek : ((i : Int) + (n : Int)).toNat = i + n := by omega
        have gx : getInt (List.drop (0 + ((i : Int) + (n : Int)).toNat * 1) (limbs u2)) = (w : Int) := by rw [ek, Nat.zero_add, Nat.mul_one, getInt_limbs, hwn]
        have g0 : (w : Int) + (c : Int) = ((BB : Nat) : Int) := by omega
        have g6 : ((BB : Nat) : Int).tmod 1000000000 = ((0 : Nat) : Int) := rfl
        have hsm : seg (u2.set (i + n) 0) i (n + 1) = U % V := by
          rw [seg_succ (by rw [List.length_set]; omega), seg_set (Nat.le_refl _), getD_set_eq (by omega), he1]
          simp
        have hs3 : ∀ k', k' < i ∨ i + (n + 1) ≤ k' → (u2.set (i + n) 0).getD k' 0 = u.getD k' 0 := by
          intro k' hk'
          rw [getD_set_ne' (by omega), hs2 k' (by omega)]
          exact hs1 k' hk'
        have hu3 := okL_set hu2 (i + n) (show 0 < BB by decide)
        have hul3 : (u2.set (i + n) 0).length = nA + 2 := by rw [List.length_set]; omega
        have hsp3 : splice (limbs u2) (0 + ((i : Int) + (n : Int)).toNat * 1) [.int .u32 ((0 : Nat) : Int)] = limbs (u2.set (i + n) 0) := by
          rw [ek, Nat.zero_add, Nat.mul_one, splice_limbs (by omega)]
        obtain ⟨hr1, hr2⟩ := kn_done (by omega) (by omega) hs3 hV0' hUs hU0 hsm hgd' (hqz i (by omega)) (by omega) hval
        generalize hu3e : u2.set (i + n) 0 = u3 at *
        repeat' ((conv => whnf); first | refine ngo ?_ | refine VB.tt ?_ | refine VB.ff ?_ | refine VNew.keep ?_ | refine dgo ?_ | refine sgo ?_ | fail)
        conv => whnf
        rw [gx]
        repeat' ((conv => whnf); first | refine ngo ?_ | refine VB.tt ?_ | refine VB.ff ?_ | refine VNew.keep ?_ | refine dgo ?_ | refine sgo ?_ | fail)
        conv => whnf
        rw [g0]
        repeat' ((conv => whnf); first | refine ngo ?_ | refine VB.tt ?_ | refine VB.ff ?_ | refine VNew.keep ?_ | refine dgo ?_ | refine sgo ?_ | fail)
        conv => whnf
        rw [g6]
        repeat' ((conv => whnf); first | refine ngo ?_ | refine VB.tt ?_ | refine VB.ff ?_ | refine VNew.keep ?_ | refine dgo ?_ | refine sgo ?_ | fail)
        conv => whnf
        refine ⟨(i, u3, q.set i g'), ⟨by dsimp only; omega, by dsimp only; omega, hu3, by dsimp only; rw [List.length_set]; exact hql, okL_set hq _ (by omega), hr1, hr2, ?_⟩, by dsimp only; omega, ⟨⟨rfl, rfl, rfl, rfl, rfl, rfl, rfl, rfl, trivial⟩, ?_, rfl⟩⟩
        · intro k' hk'
          dsimp only at hk' ⊢
          rw [getD_set_ne' (by omega)]
          exact hqz k' (by omega)
        · show [_, _, AObj.cells _ _ (splice _ _ _)] = _
          rw [eo1, splice_limbs (by omega), splice_limbs (by omega), ek, Nat.zero_add, Nat.mul_one, hu3e]
          rfl
  · have : i = 0 := by omega
    subst this
    rw [List.drop_zero] at hud
    repeat' ((conv => whnf); first | refine ngo ?_ | refine VB.tt ?_ | refine VB.ff ?_ | refine VNew.keep ?_ | refine dgo ?_ | refine sgo ?_ | fail)
    conv => whnf
    exact ⟨(u, q), ⟨hul, hu, hql, hq, hud, hval⟩, ⟨⟨rfl, rfl, rfl, trivial⟩, rfl, rfl⟩⟩
end Go.Proofs.Ytoijfbdjlagooaa


/- Contracts: long division, whole. -/
namespace Go.Proofs.Ytoijfbdjlagooaa
open Go Go.RowKit
set_option linter.unusedVariables false
set_option linter.unusedSimpArgs false
set_option maxRecDepth 100000

theorem sc_limbs : ∀ (l : List Nat), AV.sc.scL (limbs l)
  | [] => trivial
  | _ :: l => ⟨trivial, sc_limbs l⟩
theorem natv_of {l : List Nat} (h : canon l) : natL l = natv (val l) := by rw [natv, dg_val h]

set_option maxHeartbeats 1000000 in
theorem divide_c {a b : List Nat} (ha : canon a) (hb : canon b) (hb0 : b ≠ []) (la : a.length < 10000000) (lb : b.length < 10000000) :
    VCall EE 102 [natL a, natL b] [] fun v H => Fz H 0 [] v (.tup [natv (val a / val b), natv (val a % val b)]) := by
  have hbl : 0 < b.length := List.length_pos_iff.2 hb0
  refine VCall.of_body true Try.func102 rfl (by decide) rfl ?_
  repeat' ((conv => whnf); first | refine ngo ?_ | refine VB.tt ?_ | refine VB.ff ?_ | refine VNew.keep ?_ | refine dgo ?_ | refine sgo ?_ | fail)
  conv => whnf
  refine VCall.isolate (order_c ha hb (by omega) (by omega)) ⟨low_natL 0 a, low_natL 0 b, trivial⟩ fun v0 H0 hz => ⟨_, .same hz trivial, ?_⟩
  repeat' ((conv => whnf); first | refine ngo ?_ | refine VB.tt ?_ | refine VB.ff ?_ | refine VNew.keep ?_ | refine dgo ?_ | refine sgo ?_ | fail)
  conv => whnf
  refine VB.dec (fun h => ?_) (fun h => ?_)
  · have hlt : val a < val b := by
      unfold cmpN at h
      split at h
      · assumption
      · split at h <;> simp at h
    repeat' ((conv => whnf); first | refine ngo ?_ | refine VB.tt ?_ | refine VB.ff ?_ | refine VNew.keep ?_ | refine dgo ?_ | refine sgo ?_ | fail)
    conv => whnf
    refine VCall.isolate (clone_c a (by omega)) ⟨low_natL 0 a, trivial⟩ fun v0 H0 hz => ⟨_, hz, ?_⟩
    repeat' ((conv => whnf); first | refine ngo ?_ | refine VB.tt ?_ | refine VB.ff ?_ | refine VNew.keep ?_ | refine dgo ?_ | refine sgo ?_ | fail)
    conv => whnf
    rw [Nat.div_eq_of_lt hlt, Nat.mod_eq_of_lt hlt, ← natv_of ha]
    exact .tup (.cons (by rw [natv, dg_zero]; exact .nsl) (.cons (.same rfl (low_natL 0 _)) .nil))
  · have hge : val b ≤ val a := by
      unfold cmpN at h
      split at h
      · exact absurd (show (-1 : Int) < 0 by decide) h
      · omega
    repeat' ((conv => whnf); first | refine ngo ?_ | refine VB.tt ?_ | refine VB.ff ?_ | refine VNew.keep ?_ | refine dgo ?_ | refine sgo ?_ | fail)
    conv => whnf
    refine VB.eq (fun h1 => ?_) (fun h1 => ?_)
    · obtain ⟨d, rfl⟩ : ∃ d, b = [d] := List.length_eq_one_iff.1 (by omega)
      have hd : d < BB := hb.1 d (by simp)
      have hd0 : 0 < d := Nat.pos_of_ne_zero (hb.2 d rfl)
      have hvd : val [d] = d := by simp [val]
      have g1 : getInt (List.drop ((0 : Int).toNat * 1) (limbs [d])) = (d : Int) := rfl
      have hBB : BB = 1000000000 := rfl
      repeat' ((conv => whnf); first | refine ngo ?_ | refine VB.tt ?_ | refine VB.ff ?_ | refine VNew.keep ?_ | refine dgo ?_ | refine sgo ?_ | fail)
      conv => whnf
      rw [g1]
      repeat' ((conv => whnf); first | refine ngo ?_ | refine VB.tt ?_ | refine VB.ff ?_ | refine VNew.keep ?_ | refine dgo ?_ | refine sgo ?_ | fail)
      conv => whnf
      refine VCall.isolate (small_own ha.1 (by omega) hd0 hd) ⟨low_natL 0 a, trivial, trivial⟩ fun v0 H0 hz => ?_
      obtain ⟨l, hl1, hl2, rfl, rfl⟩ := hz
      refine ⟨.tup [natv (val a / d), .int .u64 ((val a % d : Nat) : Int)], .tup (.cons (.nat (Nat.zero_le _) (by simp) rfl (by rw [Nat.mul_one, ← hl2, limbs_take, take_dg hl1]) rfl) (.cons (.same rfl trivial) .nil)), ?_⟩
      repeat' ((conv => whnf); first | refine ngo ?_ | refine VB.tt ?_ | refine VB.ff ?_ | refine VNew.keep ?_ | refine dgo ?_ | refine sgo ?_ | fail)
      conv => whnf
      refine VCall.isolate (of_c (val a % d) (Nat.lt_trans (Nat.mod_lt _ hd0) (by omega))) ⟨trivial, trivial⟩ fun v0 H0 hz => ⟨_, hz, ?_⟩
      repeat' ((conv => whnf); first | refine ngo ?_ | refine VB.tt ?_ | refine VB.ff ?_ | refine VNew.keep ?_ | refine dgo ?_ | refine sgo ?_ | fail)
      conv => whnf
      rw [hvd]
      exact .same rfl ⟨low_natL 0 _, low_natL 0 _, trivial⟩
    · have hn2 : 2 ≤ b.length := by omega
      have hBB : BB = 1000000000 := rfl
      have eb : ((b.length : Int) - 1).toNat = b.length - 1 := by omega
      have hbt := getD_lt hb.1 (b.length - 1)
      have hbt0 : b.getD (b.length - 1) 0 ≠ 0 := hb.2 _ (by rw [List.getLast?_eq_getElem?, List.getD_eq_getElem?_getD, List.getElem?_eq_getElem (by omega)]; rfl)
      have g1 : getInt (List.drop (((b.length : Int) - 1).toNat * 1) (limbs b)) = ((b.getD (b.length - 1) 0 : Nat) : Int) := by rw [eb, Nat.mul_one, getInt_limbs]
      generalize b.getD (b.length - 1) 0 = bt at *
      have hf1 : 1 ≤ BB / (bt + 1) := (Nat.le_div_iff_mul_le (by omega)).2 (by omega)
      have hf2 : BB / (bt + 1) < BB := Nat.div_lt_self (by decide) (by omega)
      have g2 : (1000000000 : Int).tdiv ((bt : Int) + 1) = ((BB / (bt + 1) : Nat) : Int) := rfl
      generalize BB / (bt + 1) = f at *
      repeat' ((conv => whnf); first | refine ngo ?_ | refine VB.tt ?_ | refine VB.ff ?_ | refine VNew.keep ?_ | refine dgo ?_ | refine sgo ?_ | fail)
      conv => whnf
      rw [g1]
      repeat' ((conv => whnf); first | refine ngo ?_ | refine VB.tt ?_ | refine VB.ff ?_ | refine VNew.keep ?_ | refine dgo ?_ | refine sgo ?_ | fail)
      conv => whnf
      rw [g2]
      repeat' ((conv => whnf); first | refine ngo ?_ | refine VB.tt ?_ | refine VB.ff ?_ | refine VNew.keep ?_ | refine dgo ?_ | refine sgo ?_ | fail)
      conv => whnf
      refine VCall.isolate (of_c f (by omega)) ⟨trivial, trivial⟩ fun v0 H0 hz => ⟨_, hz, ?_⟩
      repeat' ((conv => whnf); first | refine ngo ?_ | refine VB.tt ?_ | refine VB.ff ?_ | refine VNew.keep ?_ | refine dgo ?_ | refine sgo ?_ | fail)
      conv => whnf
      have hfl : (dg f).length ≤ 1 := length_dg_lt (by simpa using hf2)
      refine VCall.own (product_own ha.1 (okL_dg f) (by omega) (by omega)) ⟨low_natL 0 a, low_natL 0 _, trivial⟩ fun v0 H0 hz => ?_
      obtain ⟨l, hl1, hl2, rfl, rfl⟩ := hz
      rw [val_dg] at *
      refine ⟨fun o ho => by rw [List.mem_singleton.1 ho]; exact low_limbs 0 l, _, .osl, ?_⟩
      generalize hA : val a * f = A at *
      have hAl : (dg A).length ≤ a.length + 1 := by
        refine length_dg_lt ?_
        rw [← hA, Nat.pow_succ]
        exact Nat.mul_lt_mul'' (val_lt ha.1) hf2
      have hlA : (dg A).length ≤ l.length := by rw [← hl2]; exact dg_length_le hl1
      have hu : List.take ((dg A).length * 1) (limbs l) ++ [AV.int .u32 0, AV.int .u32 0] = limbs (dg A ++ [0, 0]) := by
        rw [Nat.mul_one, limbs_take, ← hl2, take_dg hl1, limbs_append]
        rfl
      repeat' ((conv => whnf); first | refine ngo ?_ | refine VB.tt ?_ | refine VB.ff ?_ | refine VNew.keep ?_ | refine dgo ?_ | refine sgo ?_ | fail)
      conv => whnf
      show VCall EE _ _ [AObj.cells 1 41 (List.take ((dg A).length * 1) (limbs l) ++ [AV.int .u32 0, AV.int .u32 0]), AObj.cells 0 41 [AV.int .u32 0, AV.int .u32 0]] _
      rw [hu]
      refine VCall.isolate (of_c f (by omega)) ⟨trivial, trivial⟩ fun v0 H0 hz => ⟨_, hz, ?_⟩
      repeat' ((conv => whnf); first | refine ngo ?_ | refine VB.tt ?_ | refine VB.ff ?_ | refine VNew.keep ?_ | refine dgo ?_ | refine sgo ?_ | fail)
      conv => whnf
      refine VCall.isolate (product_own hb.1 (okL_dg f) (by omega) (by omega)) ⟨low_natL 0 b, low_natL 0 _, trivial⟩ fun v0 H0 hz => ?_
      obtain ⟨l', hl1', hl2', rfl, rfl⟩ := hz
      rw [val_dg] at *
      obtain ⟨V, hV⟩ : ∃ V, V = val b * f := ⟨_, rfl⟩
      obtain ⟨n, hnn⟩ : ∃ n, n = (dg V).length := ⟨_, rfl⟩
      refine ⟨.dsl (limbs (dg V)) n, by rw [hnn, hV]; exact .nat (Nat.zero_le _) (by simp) rfl (by rw [Nat.mul_one, ← hl2', limbs_take, take_dg hl1']) rfl, ?_⟩
      clear hl1' hl2' hz hu hl1 hl2 hlA
      have hVb : val b ≤ V := by rw [hV]; exact Nat.le_mul_of_pos_right _ hf1
      have hVA : V ≤ A := by rw [hV, ← hA]; exact Nat.mul_le_mul_right _ hge
      have hnb : b.length ≤ n := by have := dg_length_mono hVb; rwa [dg_val hb, ← hnn] at this
      have hnA : n ≤ (dg A).length := by rw [hnn]; exact dg_length_mono hVA
      have hVc := canon_dg V
      have hVv := val_dg V
      have en1 : ((n : Int) - 1).toNat = n - 1 := by omega
      have en2 : ((n : Int) - 2).toNat = n - 2 := by omega
      have hv1 := getD_lt hVc.1 (n - 1)
      have hv2 := getD_lt hVc.1 (n - 2)
      have hv10 : (dg V).getD (n - 1) 0 ≠ 0 := hVc.2 _ (by rw [List.getLast?_eq_getElem?, List.getD_eq_getElem?_getD, ← hnn, List.getElem?_eq_getElem (by omega)]; rfl)
      have g3 : getInt (List.drop (((n : Int) - 1).toNat * 1) (limbs (dg V))) = (((dg V).getD (n - 1) 0 : Nat) : Int) := by rw [en1, Nat.mul_one, getInt_limbs]
      have g4 : getInt (List.drop (((n : Int) - 2).toNat * 1) (limbs (dg V))) = (((dg V).getD (n - 2) 0 : Nat) : Int) := by rw [en2, Nat.mul_one, getInt_limbs]
      have hsp := two_split hnn.symm (by omega)
      rw [hVv] at hsp
      have hv3 : val ((dg V).take (n - 2)) < BB ^ (n - 2) := by
        have := val_lt (hVc.1.take (n - 2))
        rwa [List.length_take, Nat.min_eq_left (by omega)] at this
      generalize hv1e : (dg V).getD (n - 1) 0 = v1 at *
      generalize hv2e : (dg V).getD (n - 2) 0 = v2 at *
      generalize hv3e : val ((dg V).take (n - 2)) = v3 at *
      generalize hnA' : (dg A).length = nA at *
      repeat' ((conv => whnf); first | refine ngo ?_ | refine VB.tt ?_ | refine VB.ff ?_ | refine VNew.keep ?_ | refine dgo ?_ | refine sgo ?_ | fail)
      conv => whnf
      rw [g3]
      repeat' ((conv => whnf); first | refine ngo ?_ | refine VB.tt ?_ | refine VB.ff ?_ | refine VNew.keep ?_ | refine dgo ?_ | refine sgo ?_ | fail)
      conv => whnf
      rw [g4]
      repeat' ((conv => whnf); first | refine ngo ?_ | refine VB.tt ?_ | refine VB.ff ?_ | refine VNew.keep ?_ | refine dgo ?_ | refine sgo ?_ | fail)
      conv => whnf
      clear g1 g2 g3 g4 hz
      obtain ⟨lq, hlq⟩ : ∃ lq, lq + n = nA + 2 := ⟨nA + 2 - n, by omega⟩
      have hP : 0 < BB ^ (n - 2) := Nat.pow_pos (by decide)
      have hVpow : V < BB ^ n := by rw [← hVv, hnn]; exact val_lt hVc.1
      have hV0 : BB ^ (n - 2) ≤ V := by
        have h0 : 0 < v1 * BB := Nat.mul_pos (by omega) (by decide)
        have h1 : 1 * BB ^ (n - 2) ≤ (v1 * BB + v2) * BB ^ (n - 2) := Nat.mul_le_mul_right _ (by omega)
        omega
      have hc : DivC f n nA lq V v1 v2 v3 A := ⟨hf1, hf2, by omega, hnn, hnA, by omega, hlq, hv1, hv10, hv2, hsp, hv3, by omega, hVpow⟩
      refine VLoop.use (digit_loop (u0 := dg A ++ [0, 0]) (q0 := List.replicate lq 0) hc (by simp [hnA']) (okL_append.2 ⟨okL_dg A, by simp [okL]⟩) (by simp) (okL_zeros _) ?_ ?_ ?_) ?_ ?_
      · rw [val_drop (okL_append.2 ⟨okL_dg A, by simp [okL]⟩), val_append, val_dg]
        simp only [val, Nat.mul_zero, Nat.add_zero]
        refine Nat.lt_of_lt_of_le (Nat.div_lt_of_lt_mul ?_) hV0
        rw [← Nat.pow_add, show lq + (n - 2) = nA by omega, ← hnA']
        exact lt_of_length_dg A
      · rw [val_append, val_dg, val_zeros]
        simp [val]
      · intro k hk
        rw [List.getD_eq_getElem?_getD, List.getElem?_replicate]
        split <;> rfl
      · refine ⟨⟨?_, rfl, ?_, rfl, rfl, rfl, rfl, ?_, trivial⟩, ?_, rfl⟩
        · simp [lk]; omega
        · simp [lk]
        · simp [lk]; omega
        · show [_, _, AObj.cells 0 _ (reps _ _)] = _
          rw [show (((nA + 2 : Nat) : Int) - (n : Int)).toNat = lq by omega]
          exact congrArg (fun x => [AObj.cells 1 41 (limbs (dg A ++ [0, 0])), .cells 0 41 [AV.int .u32 0, AV.int .u32 0], AObj.cells 0 41 x]) (limbs_zeros _)
      rintro ⟨u, q⟩ ⟨hul, hu, hql, hq, hud, hval⟩
      dsimp only at hul hu hql hq hud hval ⊢
      have hV0' : 0 < V := hc.hV0
      have hquo : val q = val a / val b := by
        have h1 : A / V = val q := by rw [← hval, Nat.mul_comm, Nat.add_mul_div_right _ _ hV0', Nat.div_eq_of_lt hud, Nat.zero_add]
        rw [← h1, ← hA, hV, Nat.mul_div_mul_right _ _ (by omega)]
      have hrem : val u = val a % val b * f := by
        have h1 : A % V = val u := by rw [← hval, Nat.mul_comm, Nat.add_mul_mod_self_right, Nat.mod_eq_of_lt hud]
        rw [← h1, ← hA, hV, Nat.mul_mod_mul_right]
      repeat' ((conv => whnf); first | refine ngo ?_ | refine VB.tt ?_ | refine VB.ff ?_ | refine VNew.keep ?_ | refine dgo ?_ | refine sgo ?_ | fail)
      conv => whnf
      have ht := trim_own0 (R := [.cells 0 41 [AV.int .u32 0, AV.int .u32 0], .cells 0 41 (limbs q)]) (ver := 1) (e := 41) hu (by omega)
      rw [hul] at ht
      refine ht.mono fun v H' hq' => ?_
      obtain ⟨rfl, rfl⟩ := hq'
      repeat' ((conv => whnf); first | refine ngo ?_ | refine VB.tt ?_ | refine VB.ff ?_ | refine VNew.keep ?_ | refine dgo ?_ | refine sgo ?_ | fail)
      conv => whnf
      have hul2 : (dg (val u)).length ≤ u.length := dg_length_le hu
      refine VCall.lendF (args' := [natL (dg (val u)), .int .u64 f]) (small_own (okL_dg _) (by omega) (by omega) hf2) (.cons (.nat (Nat.zero_le _) (by simp) rfl (by rw [Nat.mul_one, limbs_take, take_dg hu]) rfl) (.cons (.same rfl trivial) .nil)) fun v0 H0 hz => ?_
      obtain ⟨l2, hl1, hl2, rfl, rfl⟩ := hz
      rw [val_dg] at hl2
      rw [val_dg]
      refine ⟨.tup [natv (val u / f), .int .u64 ((val u % f : Nat) : Int)], .two (.osl rfl (by rw [List.drop_zero, Nat.mul_one, ← hl2, limbs_take, take_dg hl1]) (sc_limbs _)) (.sc rfl trivial), ?_⟩
      repeat' ((conv => whnf); first | refine ngo ?_ | refine VB.tt ?_ | refine VB.ff ?_ | refine VNew.keep ?_ | refine dgo ?_ | refine sgo ?_ | fail)
      conv => whnf
      have ht := trim_own2 (x0 := .cells 1 41 (limbs u)) (x1 := .cells 0 41 [AV.int .u32 0, AV.int .u32 0]) (R := []) (ver := 0) (e := 41) hq (by omega)
      rw [hql] at ht
      refine ht.mono fun v H' hq' => ?_
      obtain ⟨rfl, rfl⟩ := hq'
      repeat' ((conv => whnf); first | refine ngo ?_ | refine VB.tt ?_ | refine VB.ff ?_ | refine VNew.keep ?_ | refine dgo ?_ | refine sgo ?_ | fail)
      conv => whnf
      rw [hrem, Nat.mul_div_cancel _ (by omega), ← hquo]
      exact .tup (.cons (.nat (Nat.zero_le _) (by simp) rfl (by rw [Nat.mul_one, limbs_take, take_dg hq]) rfl) (.cons (.same rfl (low_natL 0 _)) .nil))
end Go.Proofs.Ytoijfbdjlagooaa


/- Contracts: lists alike, checks, common divisors. -/
namespace Go.Proofs.Ytoijfbdjlagooaa
open Go Go.RowKit
set_option linter.unusedVariables false
set_option linter.unusedSimpArgs false
set_option maxRecDepth 100000

theorem natv_zero : natv 0 = .dsl [] 0 := by rw [natv, dg_zero]; rfl
theorem fz_nil0 {H : Heap} : Fz H 0 [] .nsl (natv 0) := by rw [natv_zero]; exact .nsl

def canonB (l : List Nat) : Bool := l.all (fun x => decide (x < BB)) && (l.getLast? != some 0)
theorem canonB_iff {l : List Nat} : canonB l = true ↔ canon l := by
  simp only [canonB, canon, okL, Bool.and_eq_true, List.all_eq_true, decide_eq_true_eq, bne_iff_ne, ne_eq]
  constructor
  · rintro ⟨h1, h2⟩
    exact ⟨h1, fun x hx h0 => h2 (by rw [hx, h0])⟩
  · rintro ⟨h1, h2⟩
    exact ⟨h1, fun h => h2 0 h rfl⟩
theorem canonB_false {l : List Nat} (h : ¬ canon l) : canonB l = false := by
  cases e : canonB l with
  | false => rfl
  | true => exact absurd (canonB_iff.1 e) h
def chk (l : List Nat) : Int := if 1024 < l.length then 4 else if canonB l then 0 else 3
theorem chk_zero {l : List Nat} (h : chk l = 0) : canon l ∧ l.length ≤ 1024 := by
  unfold chk at h
  split at h
  · cases h
  · split at h
    · rename_i h1 h2; exact ⟨canonB_iff.1 h2, by omega⟩
    · cases h
theorem chk_dg {n : Nat} (h : (dg n).length ≤ 1024) : chk (dg n) = 0 := by
  unfold chk
  rw [if_neg (by omega), if_pos (canonB_iff.2 (canon_dg n))]

theorem alike_c {a b : List Nat} (la : a.length < 1000000000) (lb : b.length < 1000000000) : VCall EE 37 [natL a, natL b] [] fun v H => v = .bool (decide (a = b)) := by
  refine VCall.of_body true Try.func37 rfl (by decide) rfl ?_
  repeat' ((conv => whnf); first | refine ngo ?_ | refine VB.tt ?_ | refine VB.ff ?_ | refine VNew.keep ?_ | refine dgo ?_ | refine sgo ?_ | fail)
  conv => whnf
  refine VB.ne (fun h => ?_) (fun h => ?_)
  · repeat' ((conv => whnf); first | refine ngo ?_ | refine VB.tt ?_ | refine VB.ff ?_ | refine VNew.keep ?_ | refine dgo ?_ | refine sgo ?_ | fail)
    conv => whnf
    rw [decide_eq_false (by rintro rfl; exact h rfl)]
  · repeat' ((conv => whnf); first | refine ngo ?_ | refine VB.tt ?_ | refine VB.ff ?_ | refine VNew.keep ?_ | refine dgo ?_ | refine sgo ?_ | fail)
    conv => whnf
    refine VLoop.ix true (fun i : Nat => ⟨[(0, natL a), (1, natL b), (5, .int .i64 i)], [], []⟩) (fun i => i ≤ a.length ∧ a.take i = b.take i) (fun i => a.length - i) 0 ⟨Nat.zero_le _, rfl⟩ ⟨⟨rfl, rfl, rfl, trivial⟩, rfl, rfl⟩ ?_
    rintro i ⟨hi, hd⟩
    repeat' ((conv => whnf); first | refine ngo ?_ | refine VB.tt ?_ | refine VB.ff ?_ | refine VNew.keep ?_ | refine dgo ?_ | refine sgo ?_ | fail)
    conv => whnf
    refine VB.dec (fun h => ?_) (fun h => ?_)
    · repeat' ((conv => whnf); first | refine ngo ?_ | refine VB.tt ?_ | refine VB.ff ?_ | refine VNew.keep ?_ | refine dgo ?_ | refine sgo ?_ | fail)
      conv => whnf
      rw [Int.toNat_natCast, Nat.mul_one, getInt_limbs, getInt_limbs]
      refine VB.ne (fun h1 => ?_) (fun h1 => ?_)
      · repeat' ((conv => whnf); first | refine ngo ?_ | refine VB.tt ?_ | refine VB.ff ?_ | refine VNew.keep ?_ | refine dgo ?_ | refine sgo ?_ | fail)
        conv => whnf
        rw [decide_eq_false (by rintro rfl; exact h1 rfl)]
      · repeat' ((conv => whnf); first | refine ngo ?_ | refine VB.tt ?_ | refine VB.ff ?_ | refine VNew.keep ?_ | refine dgo ?_ | refine sgo ?_ | fail)
        conv => whnf
        refine ⟨i + 1, ⟨by omega, ?_⟩, by omega, ⟨⟨rfl, rfl, by simp [lk], trivial⟩, rfl, rfl⟩⟩
        have h2 : a.getD i 0 = b.getD i 0 := Int.ofNat.inj h1
        simp [List.getD_eq_getElem?_getD, show i < a.length by omega, show i < b.length by omega] at h2
        rw [List.take_succ_eq_append_getElem (by omega), List.take_succ_eq_append_getElem (by omega), hd, h2]
    · have : i = a.length := by omega
      subst this
      repeat' ((conv => whnf); first | refine ngo ?_ | refine VB.tt ?_ | refine VB.ff ?_ | refine VNew.keep ?_ | refine dgo ?_ | refine sgo ?_ | fail)
      conv => whnf
      rw [List.take_length, List.take_of_length_le (by omega)] at hd
      rw [decide_eq_true hd]

theorem check1_c (x : Nat) : VCall EE 101 [.int .u32 x] [] fun v H => v = .bool (decide (BB ≤ x)) := by
  refine VCall.of_body true Try.func101 rfl (by decide) rfl ?_
  repeat' ((conv => whnf); first | refine ngo ?_ | refine VB.tt ?_ | refine VB.ff ?_ | refine VNew.keep ?_ | refine dgo ?_ | refine sgo ?_ | fail)
  conv => whnf
  have : decide ((x : Int) ≥ 1000000000) = decide (BB ≤ x) := by
    have hBB : BB = 1000000000 := rfl
    by_cases h : BB ≤ x
    · rw [decide_eq_true h, decide_eq_true (by omega)]
    · rw [decide_eq_false h, decide_eq_false (by omega)]
  rw [this]

theorem indexf_c {l : List Nat} (ll : l.length < 1000000000) : VCall EE 111 [natL l, .fn (.func 101) [] []] [] fun v H => ∃ r : Int, v = .int .i64 r ∧ (r ≥ 0 ↔ ¬ okL l) := by
  refine VCall.of_body true Try.func111 rfl (by decide) rfl ?_
  repeat' ((conv => whnf); first | refine ngo ?_ | refine VB.tt ?_ | refine VB.ff ?_ | refine VNew.keep ?_ | refine dgo ?_ | refine sgo ?_ | fail)
  conv => whnf
  refine VLoop.ix true (fun i : Nat => ⟨[(0, natL l), (1, .fn (.func 101) [] []), (7, .int .i64 l.length), (8, .int .i64 i)], [], []⟩) (fun i => i ≤ l.length ∧ okL (l.take i)) (fun i => l.length - i) 0 ⟨Nat.zero_le _, by simp [okL]⟩ ⟨⟨rfl, rfl, rfl, rfl, trivial⟩, rfl, rfl⟩ ?_
  rintro i ⟨hi, hd⟩
  repeat' ((conv => whnf); first | refine ngo ?_ | refine VB.tt ?_ | refine VB.ff ?_ | refine VNew.keep ?_ | refine dgo ?_ | refine sgo ?_ | fail)
  conv => whnf
  refine VB.dec (fun h => ?_) (fun h => ?_)
  · repeat' ((conv => whnf); first | refine ngo ?_ | refine VB.tt ?_ | refine VB.ff ?_ | refine VNew.keep ?_ | refine dgo ?_ | refine sgo ?_ | fail)
    conv => whnf
    rw [Int.toNat_natCast, Nat.mul_one, getInt_limbs]
    refine VCall.s (check1_c _) ?_
    repeat' ((conv => whnf); first | refine ngo ?_ | refine VB.tt ?_ | refine VB.ff ?_ | refine VNew.keep ?_ | refine dgo ?_ | refine sgo ?_ | fail)
    conv => whnf
    have hx : l.getD i 0 ∈ l := by
      simp [List.getD_eq_getElem?_getD, show i < l.length by omega]
    refine VB.dec (fun h1 => ?_) (fun h1 => ?_)
    · repeat' ((conv => whnf); first | refine ngo ?_ | refine VB.tt ?_ | refine VB.ff ?_ | refine VNew.keep ?_ | refine dgo ?_ | refine sgo ?_ | fail)
      conv => whnf
      exact ⟨i, rfl, fun _ hok => absurd (hok _ hx) (by omega), fun _ => by omega⟩
    · repeat' ((conv => whnf); first | refine ngo ?_ | refine VB.tt ?_ | refine VB.ff ?_ | refine VNew.keep ?_ | refine dgo ?_ | refine sgo ?_ | fail)
      conv => whnf
      refine ⟨i + 1, ⟨by omega, ?_⟩, by omega, ⟨⟨rfl, rfl, rfl, by simp [lk], trivial⟩, rfl, rfl⟩⟩
      rw [List.take_succ_eq_append_getElem (by omega)]
      refine okL_append.2 ⟨hd, fun x hx => ?_⟩
      simp [List.getD_eq_getElem?_getD, show i < l.length by omega] at h1
      rw [List.mem_singleton.1 hx]
      exact h1
  · have : i = l.length := by omega
    subst this
    rw [List.take_length] at hd
    repeat' ((conv => whnf); first | refine ngo ?_ | refine VB.tt ?_ | refine VB.ff ?_ | refine VNew.keep ?_ | refine dgo ?_ | refine sgo ?_ | fail)
    conv => whnf
    exact ⟨_, rfl, fun h => absurd h (by decide), fun h => absurd hd h⟩

theorem containsf_c {l : List Nat} (ll : l.length < 1000000000) : VCall EE 100 [natL l, .fn (.func 101) [] []] [] fun v H => v = .bool (!l.all (fun x => decide (x < BB))) := by
  refine VCall.of_body true Try.func100 rfl (by decide) rfl ?_
  repeat' ((conv => whnf); first | refine ngo ?_ | refine VB.tt ?_ | refine VB.ff ?_ | refine VNew.keep ?_ | refine dgo ?_ | refine sgo ?_ | fail)
  conv => whnf
  refine VCall.isolate (indexf_c ll) (by repeat' (first | exact trivial | exact low_natL 0 _ | exact low_limbs 0 _ | refine And.intro ?_ ?_ | fail)) fun v0 H0 hz => ?_
  obtain ⟨r, rfl, hr⟩ := hz
  refine ⟨_, .same rfl trivial, ?_⟩
  repeat' ((conv => whnf); first | refine ngo ?_ | refine VB.tt ?_ | refine VB.ff ?_ | refine VNew.keep ?_ | refine dgo ?_ | refine sgo ?_ | fail)
  conv => whnf
  congr 1
  by_cases h : okL l
  · rw [decide_eq_false (fun h1 => (hr.1 h1) h), List.all_eq_true.2 (fun x hx => decide_eq_true (h x hx))]
    rfl
  · rw [decide_eq_true (hr.2 h)]
    cases e : l.all (fun x => decide (x < BB)) with
    | false => rfl
    | true => exact absurd (fun x hx => of_decide_eq_true (List.all_eq_true.1 e x hx)) h

theorem check_c (l : List Nat) (ll : l.length < 1000000000000000000) : VCall EE 75 [natL l] [] fun v H => v = .int .i64 (chk l) := by
  refine VCall.of_body true Try.func75 rfl (by decide) rfl ?_
  repeat' ((conv => whnf); first | refine ngo ?_ | refine VB.tt ?_ | refine VB.ff ?_ | refine VNew.keep ?_ | refine dgo ?_ | refine sgo ?_ | fail)
  conv => whnf
  refine VB.dec (fun h => ?_) (fun h => ?_)
  · repeat' ((conv => whnf); first | refine ngo ?_ | refine VB.tt ?_ | refine VB.ff ?_ | refine VNew.keep ?_ | refine dgo ?_ | refine sgo ?_ | fail)
    conv => whnf
    rw [chk, if_pos (by omega)]
  · repeat' ((conv => whnf); first | refine ngo ?_ | refine VB.tt ?_ | refine VB.ff ?_ | refine VNew.keep ?_ | refine dgo ?_ | refine sgo ?_ | fail)
    conv => whnf
    refine VCall.s (containsf_c (by omega)) ?_
    repeat' ((conv => whnf); first | refine ngo ?_ | refine VB.tt ?_ | refine VB.ff ?_ | refine VNew.keep ?_ | refine dgo ?_ | refine sgo ?_ | fail)
    conv => whnf
    have hc : chk l = if canonB l then 0 else 3 := by rw [chk, if_neg (by omega)]
    unfold canonB at hc
    cases e : l.all (fun x => decide (x < BB)) with
    | false =>
      rw [e] at hc
      repeat' ((conv => whnf); first | refine ngo ?_ | refine VB.tt ?_ | refine VB.ff ?_ | refine VNew.keep ?_ | refine dgo ?_ | refine sgo ?_ | fail)
      conv => whnf
      rw [hc]
      rfl
    | true =>
      rw [e] at hc
      repeat' ((conv => whnf); first | refine ngo ?_ | refine VB.tt ?_ | refine VB.ff ?_ | refine VNew.keep ?_ | refine dgo ?_ | refine sgo ?_ | fail)
      conv => whnf
      by_cases h0 : (l.length : Int) > 0
      · rw [decide_eq_true h0]
        have el : ((l.length : Int) - 1).toNat = l.length - 1 := by omega
        have hl : l.getLast? = some (l.getD (l.length - 1) 0) := by
          rw [List.getLast?_eq_getElem?, List.getD_eq_getElem?_getD, List.getElem?_eq_getElem (by omega)]
          rfl
        rw [hl] at hc
        repeat' ((conv => whnf); first | refine ngo ?_ | refine VB.tt ?_ | refine VB.ff ?_ | refine VNew.keep ?_ | refine dgo ?_ | refine sgo ?_ | fail)
        conv => whnf
        rw [el, Nat.mul_one, getInt_limbs]
        generalize l.getD (l.length - 1) 0 = x at *
        refine VB.eq (fun h1 => ?_) (fun h1 => ?_)
        · have h1 : x = 0 := by omega
          subst h1
          repeat' ((conv => whnf); first | refine ngo ?_ | refine VB.tt ?_ | refine VB.ff ?_ | refine VNew.keep ?_ | refine dgo ?_ | refine sgo ?_ | fail)
          conv => whnf
          rw [hc]
          rfl
        · have h1 : x ≠ 0 := by omega
          repeat' ((conv => whnf); first | refine ngo ?_ | refine VB.tt ?_ | refine VB.ff ?_ | refine VNew.keep ?_ | refine dgo ?_ | refine sgo ?_ | fail)
          conv => whnf
          rw [hc]
          simp [h1]
      · rw [decide_eq_false h0]
        have : l = [] := List.length_eq_zero_iff.1 (by omega)
        subst this
        repeat' ((conv => whnf); first | refine ngo ?_ | refine VB.tt ?_ | refine VB.ff ?_ | refine VNew.keep ?_ | refine dgo ?_ | refine sgo ?_ | fail)
        conv => whnf
        rfl

def both2 (a b : List Nat) : Int := if chk a = 0 then chk b else chk a
theorem both2_zero {a b : List Nat} (h : both2 a b = 0) : chk a = 0 ∧ chk b = 0 := by
  unfold both2 at h
  split at h
  · exact ⟨by assumption, h⟩
  · exact absurd h (by assumption)

/-- Results of two numbers: a number and an error. -/
def res2 (a b : List Nat) (n : Nat) (e : Int) : AV := .tup [natv (if both2 a b = 0 then n else 0), .int .i64 (if both2 a b = 0 then e else both2 a b)]

theorem divide_n {a b : Nat} (hb : b ≠ 0) (la : (dg a).length < 10000000) (lb : (dg b).length < 10000000) : VCall EE 102 [natv a, natv b] [] fun v H => Fz H 0 [] v (.tup [natv (a / b), natv (a % b)]) := by
  have := divide_c (canon_dg a) (canon_dg b) (fun h => hb (dg_eq_nil.1 h)) la lb
  rwa [val_dg, val_dg] at this
theorem product_n {a b : Nat} (la : (dg a).length < 10000000) (lb : (dg b).length < 10000000) : VCall EE 95 [natv a, natv b] [] fun v H => Fz H 0 [] v (natv (a * b)) := by
  refine (product_own (okL_dg a) (okL_dg b) (by omega) (by omega)).mono fun v H hz => ?_
  obtain ⟨l, hl1, hl2, rfl, rfl⟩ := hz
  rw [val_dg, val_dg] at *
  exact .nat (Nat.zero_le _) (by simp) rfl (by rw [Nat.mul_one, ← hl2, limbs_take, take_dg hl1]) rfl

theorem common_n {a b : Nat} (la : (dg a).length < 10000000) (lb : (dg b).length < 10000000) : VCall EE 77 [natv a, natv b] [] fun v H => Fz H 0 [] v (natv (Nat.gcd a b)) := by
  refine VCall.of_body true Try.func77 rfl (by decide) rfl ?_
  repeat' ((conv => whnf); first | refine ngo ?_ | refine VB.tt ?_ | refine VB.ff ?_ | refine VNew.keep ?_ | refine dgo ?_ | refine sgo ?_ | fail)
  conv => whnf
  refine VLoop.ix true (fun x : Nat × Nat => ⟨[(0, natv x.1), (1, natv x.2)], [], []⟩) (fun x => Nat.gcd x.1 x.2 = Nat.gcd a b ∧ (dg x.1).length < 10000000 ∧ (dg x.2).length < 10000000) (fun x => x.2) (a, b) ⟨rfl, la, lb⟩ ⟨⟨rfl, rfl, trivial⟩, rfl, rfl⟩ ?_
  rintro ⟨x, y⟩ ⟨hg, lx, ly⟩
  dsimp only at hg lx ly ⊢
  repeat' ((conv => whnf); first | refine ngo ?_ | refine VB.tt ?_ | refine VB.ff ?_ | refine VNew.keep ?_ | refine dgo ?_ | refine sgo ?_ | fail)
  conv => whnf
  refine VB.dec (fun h => ?_) (fun h => ?_)
  · have hy : y ≠ 0 := by rintro rfl; rw [dg_zero] at h; exact absurd h (by decide)
    repeat' ((conv => whnf); first | refine ngo ?_ | refine VB.tt ?_ | refine VB.ff ?_ | refine VNew.keep ?_ | refine dgo ?_ | refine sgo ?_ | fail)
    conv => whnf
    refine VCall.i (divide_n hy lx ly) ?_
    repeat' ((conv => whnf); first | refine ngo ?_ | refine VB.tt ?_ | refine VB.ff ?_ | refine VNew.keep ?_ | refine dgo ?_ | refine sgo ?_ | fail)
    conv => whnf
    refine ⟨(y, x % y), ⟨?_, ly, ?_⟩, Nat.mod_lt _ (by omega), ⟨⟨rfl, rfl, trivial⟩, rfl, rfl⟩⟩
    · dsimp only; rw [← hg, Nat.gcd_comm y, ← Nat.gcd_rec, Nat.gcd_comm]
    · dsimp only; exact Nat.lt_of_le_of_lt (dg_length_mono (Nat.le_of_lt (Nat.mod_lt _ (by omega)))) ly
  · have hy : y = 0 := by
      rcases Nat.eq_zero_or_pos y with h0 | h0
      · exact h0
      · have := pow_le_of_dg (n := y) (by omega)
        have h1 : (dg y).length ≠ 0 := fun e => by have := dg_eq_nil.1 (List.length_eq_zero_iff.1 e); omega
        omega
    subst hy
    rw [Nat.gcd_zero_right] at hg
    subst hg
    repeat' ((conv => whnf); first | refine ngo ?_ | refine VB.tt ?_ | refine VB.ff ?_ | refine VNew.keep ?_ | refine dgo ?_ | refine sgo ?_ | fail)
    conv => whnf
    refine VCall.i (clone_c _ (by omega)) ?_
    repeat' ((conv => whnf); first | refine ngo ?_ | refine VB.tt ?_ | refine VB.ff ?_ | refine VNew.keep ?_ | refine dgo ?_ | refine sgo ?_ | fail)
    conv => whnf
    repeat' (first | exact fz_nil0 | exact Fz.nsl | exact Fz.same rfl (by repeat' (first | exact trivial | exact low_natL 0 _ | exact low_limbs 0 _ | refine And.intro ?_ ?_ | fail)) | refine Fz.tup ?_ | refine FzL.cons ?_ ?_ | exact FzL.nil | fail)
end Go.Proofs.Ytoijfbdjlagooaa


/- Contracts: the reference's lists of limbs. -/
namespace Go.Proofs.Ytoijfbdjlagooaa
open Go Go.RowKit
set_option linter.unusedVariables false
set_option linter.unusedSimpArgs false
set_option maxRecDepth 100000

theorem rtrim_own {H : Heap} {b ver e k0 : Nat} {l : List Nat} (hb : H[b]? = some (.cells ver e (limbs l))) (hok : okL l) (hk0 : k0 ≤ l.length) (hl : k0 < 1000000000) :
    VCall EE 110 [.osl b ver 0 k0 1] H fun v H' => H' = H ∧ v = .osl b ver 0 (dg (val (l.take k0))).length 1 := by
  have hok' := hok.take k0
  have hle : (l.take k0).length = k0 := by rw [List.length_take]; omega
  refine VCall.of_body true Try.func110 rfl (by decide) rfl ?_
  repeat' ((conv => whnf); first | refine ngo ?_ | refine VB.tt ?_ | refine VB.ff ?_ | refine VNew.keep ?_ | refine dgo ?_ | refine sgo ?_ | fail)
  conv => whnf
  refine VLoop.ix true (fun k : Nat => ⟨[(0, .osl b ver 0 k 1)], H, []⟩) (fun k => k ≤ k0 ∧ val ((l.take k0).take k) = val (l.take k0)) id k0 ⟨Nat.le_refl _, by rw [List.take_of_length_le (by omega)]⟩ ⟨⟨rfl, trivial⟩, rfl, rfl⟩ ?_
  rintro k ⟨hk, hv⟩
  repeat' ((conv => whnf); first | refine ngo ?_ | refine VB.tt ?_ | refine VB.ff ?_ | refine VNew.keep ?_ | refine dgo ?_ | refine sgo ?_ | fail)
  conv => whnf
  by_cases h0 : (k : Int) > 0
  · rw [decide_eq_true h0]
    obtain ⟨k, rfl⟩ : ∃ j, k = j + 1 := ⟨k - 1, by omega⟩
    have ek : (((k + 1 : Nat) : Int) - 1).toNat = k := by omega
    have hgd : (l.take k0).getD k 0 = l.getD k 0 := by simp [List.getD_eq_getElem?_getD, List.getElem?_take, show k < k0 by omega]
    repeat' ((conv => whnf); first | refine ngo ?_ | refine VB.tt ?_ | refine VB.ff ?_ | refine VNew.keep ?_ | refine dgo ?_ | refine sgo ?_ | fail)
    conv => whnf
    rw [hb]
    repeat' ((conv => whnf); first | refine ngo ?_ | refine VB.tt ?_ | refine VB.ff ?_ | refine VNew.keep ?_ | refine dgo ?_ | refine sgo ?_ | fail)
    conv => whnf
    rw [ek, Nat.mul_one, Nat.zero_add, getInt_limbs]
    refine VB.eq (fun h => ?_) (fun h => ?_)
    · repeat' ((conv => whnf); first | refine ngo ?_ | refine VB.tt ?_ | refine VB.ff ?_ | refine VNew.keep ?_ | refine dgo ?_ | refine sgo ?_ | fail)
      conv => whnf
      refine ⟨k, ⟨by omega, ?_⟩, by simp, ⟨⟨by simp only [lk, ek]; rfl, trivial⟩, rfl, rfl⟩⟩
      rw [val_take_succ (by omega), hgd] at hv
      rw [show l.getD k 0 = 0 by omega] at hv
      omega
    · repeat' ((conv => whnf); first | refine ngo ?_ | refine VB.tt ?_ | refine VB.ff ?_ | refine VNew.keep ?_ | refine dgo ?_ | refine sgo ?_ | fail)
      conv => whnf
      rw [dg_length_of hok' (by omega) hv (.inr (by rw [Nat.add_sub_cancel, hgd]; omega))]
      exact to_forceH ⟨rfl, rfl⟩
  · rw [decide_eq_false h0]
    have : k = 0 := by omega
    subst this
    repeat' ((conv => whnf); first | refine ngo ?_ | refine VB.tt ?_ | refine VB.ff ?_ | refine VNew.keep ?_ | refine dgo ?_ | refine sgo ?_ | fail)
    conv => whnf
    rw [dg_length_of hok' (by omega) hv (.inl rfl)]
    exact to_forceH ⟨rfl, rfl⟩

theorem rtrim_c {l : List Nat} (hok : okL l) (hl : l.length < 1000000000) : VCall EE 110 [natL l] [] fun v H => v = natv (val l) := by
  refine VCall.of_body true Try.func110 rfl (by decide) rfl ?_
  repeat' ((conv => whnf); first | refine ngo ?_ | refine VB.tt ?_ | refine VB.ff ?_ | refine VNew.keep ?_ | refine dgo ?_ | refine sgo ?_ | fail)
  conv => whnf
  refine VLoop.ix true (fun k : Nat => ⟨[(0, .dsl (limbs (l.take k)) k)], [], []⟩) (fun k => k ≤ l.length ∧ val (l.take k) = val l) id l.length ⟨Nat.le_refl _, by rw [List.take_length]⟩ ⟨⟨by simp [lk, mkFr, natL], trivial⟩, rfl, rfl⟩ ?_
  rintro k ⟨hk, hv⟩
  have ht : ∀ k, k ≤ l.length → val (l.take k) = val l → (k = 0 ∨ l.getD (k - 1) 0 ≠ 0) → AV.dsl (limbs (l.take k)) k = natv (val l) := by
    intro k h1 h2 h3
    have h4 := dg_length_of hok h1 h2 h3
    have h5 := take_dg hok
    rw [h4] at h5
    rw [natv, ← h5, natL, List.length_take, Nat.min_eq_left h1]
  repeat' ((conv => whnf); first | refine ngo ?_ | refine VB.tt ?_ | refine VB.ff ?_ | refine VNew.keep ?_ | refine dgo ?_ | refine sgo ?_ | fail)
  conv => whnf
  by_cases h0 : (k : Int) > 0
  · rw [decide_eq_true h0]
    obtain ⟨k, rfl⟩ : ∃ j, k = j + 1 := ⟨k - 1, by omega⟩
    have ek : (((k + 1 : Nat) : Int) - 1).toNat = k := by omega
    have hlk : (l.take (k + 1)).length = k + 1 := by rw [List.length_take]; omega
    have hgd : (l.take (k + 1)).getD k 0 = l.getD k 0 := by simp [List.getD_eq_getElem?_getD, List.getElem?_take]
    repeat' ((conv => whnf); first | refine ngo ?_ | refine VB.tt ?_ | refine VB.ff ?_ | refine VNew.keep ?_ | refine dgo ?_ | refine sgo ?_ | fail)
    conv => whnf
    rw [ek, Nat.mul_one, getInt_limbs, hgd]
    refine VB.eq (fun h => ?_) (fun h => ?_)
    · repeat' ((conv => whnf); first | refine ngo ?_ | refine VB.tt ?_ | refine VB.ff ?_ | refine VNew.keep ?_ | refine dgo ?_ | refine sgo ?_ | fail)
      conv => whnf
      refine ⟨k, ⟨by omega, ?_⟩, by simp, ⟨⟨?_, trivial⟩, rfl, rfl⟩⟩
      · rw [val_take_succ (by omega)] at hv
        rw [show l.getD k 0 = 0 by omega] at hv
        omega
      · simp only [lk, ek, Nat.zero_mul, List.drop_zero, Nat.sub_zero, Nat.mul_one, limbs_take, List.take_take, if_pos]
        rw [Nat.min_eq_left (by omega)]
    · repeat' ((conv => whnf); first | refine ngo ?_ | refine VB.tt ?_ | refine VB.ff ?_ | refine VNew.keep ?_ | refine dgo ?_ | refine sgo ?_ | fail)
      conv => whnf
      exact (ht (k + 1) hk hv (.inr (by rw [Nat.add_sub_cancel]; omega)))
  · rw [decide_eq_false h0]
    have : k = 0 := by omega
    subst this
    repeat' ((conv => whnf); first | refine ngo ?_ | refine VB.tt ?_ | refine VB.ff ?_ | refine VNew.keep ?_ | refine dgo ?_ | refine sgo ?_ | fail)
    conv => whnf
    exact (ht 0 hk hv (.inl rfl))

theorem rorder_c {a b : List Nat} (ha : canon a) (hb : canon b) (la : a.length < 1000000000) (lb : b.length < 1000000000) : VCall EE 98 [natL a, natL b] [] fun v H => v = .int .i64 (cmpN (val a) (val b)) := by
  refine VCall.of_body true Try.func98 rfl (by decide) rfl ?_
  repeat' ((conv => whnf); first | refine ngo ?_ | refine VB.tt ?_ | refine VB.ff ?_ | refine VNew.keep ?_ | refine dgo ?_ | refine sgo ?_ | fail)
  conv => whnf
  refine VB.ne (fun h => ?_) (fun h => ?_)
  · repeat' ((conv => whnf); first | refine ngo ?_ | refine VB.tt ?_ | refine VB.ff ?_ | refine VNew.keep ?_ | refine dgo ?_ | refine sgo ?_ | fail)
    conv => whnf
    refine VB.dec (fun h => ?_) (fun h => ?_)
    · repeat' ((conv => whnf); first | refine ngo ?_ | refine VB.tt ?_ | refine VB.ff ?_ | refine VNew.keep ?_ | refine dgo ?_ | refine sgo ?_ | fail)
      conv => whnf
      rw [cmpN_lt (canon_lt ha.1 hb (by omega))]
    · repeat' ((conv => whnf); first | refine ngo ?_ | refine VB.tt ?_ | refine VB.ff ?_ | refine VNew.keep ?_ | refine dgo ?_ | refine sgo ?_ | fail)
      conv => whnf
      rw [cmpN_gt (canon_lt hb.1 ha (by omega))]
  · repeat' ((conv => whnf); first | refine ngo ?_ | refine VB.tt ?_ | refine VB.ff ?_ | refine VNew.keep ?_ | refine dgo ?_ | refine sgo ?_ | fail)
    conv => whnf
    refine VLoop.ix true (fun i : Nat => ⟨[(0, natL a), (1, natL b), (5, .int .i64 (i - 1))], [], []⟩) (fun i => i ≤ a.length ∧ a.drop i = b.drop i) id a.length ⟨Nat.le_refl _, by rw [List.drop_length, List.drop_eq_nil_of_le (by omega)]⟩ ⟨⟨rfl, rfl, rfl, trivial⟩, rfl, rfl⟩ ?_
    rintro i ⟨hi, hd⟩
    repeat' ((conv => whnf); first | refine ngo ?_ | refine VB.tt ?_ | refine VB.ff ?_ | refine VNew.keep ?_ | refine dgo ?_ | refine sgo ?_ | fail)
    conv => whnf
    refine VB.dec (fun h => ?_) (fun h => ?_)
    · obtain ⟨i, rfl⟩ : ∃ k, i = k + 1 := ⟨i - 1, by omega⟩
      have ei : (((i + 1 : Nat) : Int) - 1).toNat = i := by omega
      repeat' ((conv => whnf); first | refine ngo ?_ | refine VB.tt ?_ | refine VB.ff ?_ | refine VNew.keep ?_ | refine dgo ?_ | refine sgo ?_ | fail)
      conv => whnf
      rw [ei, Nat.mul_one, getInt_limbs, getInt_limbs]
      refine VB.dec (fun h => ?_) (fun h => ?_)
      · repeat' ((conv => whnf); first | refine ngo ?_ | refine VB.tt ?_ | refine VB.ff ?_ | refine VNew.keep ?_ | refine dgo ?_ | refine sgo ?_ | fail)
        conv => whnf
        rw [cmpN_lt (val_lt_of ha.1 hb.1 (i := i) (by omega) (by omega) hd (by omega))]
      · repeat' ((conv => whnf); first | refine ngo ?_ | refine VB.tt ?_ | refine VB.ff ?_ | refine VNew.keep ?_ | refine dgo ?_ | refine sgo ?_ | fail)
        conv => whnf
        rw [ei, Nat.mul_one, getInt_limbs, getInt_limbs]
        refine VB.dec (fun h => ?_) (fun h => ?_)
        · repeat' ((conv => whnf); first | refine ngo ?_ | refine VB.tt ?_ | refine VB.ff ?_ | refine VNew.keep ?_ | refine dgo ?_ | refine sgo ?_ | fail)
          conv => whnf
          rw [cmpN_gt (val_lt_of hb.1 ha.1 (i := i) (by omega) (by omega) hd.symm (by omega))]
        · repeat' ((conv => whnf); first | refine ngo ?_ | refine VB.tt ?_ | refine VB.ff ?_ | refine VNew.keep ?_ | refine dgo ?_ | refine sgo ?_ | fail)
          conv => whnf
          refine ⟨i, ⟨by omega, ?_⟩, by simp, ⟨⟨rfl, rfl, by simp [lk], trivial⟩, rfl, rfl⟩⟩
          rw [List.drop_eq_getElem_cons (by omega), List.drop_eq_getElem_cons (l := b) (by omega), hd]
          have h3 : a.getD i 0 = b.getD i 0 := by omega
          simp [List.getD_eq_getElem?_getD, show i < a.length by omega, show i < b.length by omega] at h3
          rw [h3]
    · have : i = 0 := by omega
      subst this
      repeat' ((conv => whnf); first | refine ngo ?_ | refine VB.tt ?_ | refine VB.ff ?_ | refine VNew.keep ?_ | refine dgo ?_ | refine sgo ?_ | fail)
      conv => whnf
      rw [cmpN_eq (by simpa using congrArg val hd)]

theorem rcheck_c (l : List Nat) (ll : l.length < 1000000000000000000) : VCall EE 103 [natL l] [] fun v H => v = .int .i64 (chk l) := by
  refine VCall.of_body true Try.func103 rfl (by decide) rfl ?_
  repeat' ((conv => whnf); first | refine ngo ?_ | refine VB.tt ?_ | refine VB.ff ?_ | refine VNew.keep ?_ | refine dgo ?_ | refine sgo ?_ | fail)
  conv => whnf
  refine VB.dec (fun h => ?_) (fun h => ?_)
  · repeat' ((conv => whnf); first | refine ngo ?_ | refine VB.tt ?_ | refine VB.ff ?_ | refine VNew.keep ?_ | refine dgo ?_ | refine sgo ?_ | fail)
    conv => whnf
    rw [chk, if_pos (by omega)]
  · have hc : chk l = if canonB l then 0 else 3 := by rw [chk, if_neg (by omega)]
    repeat' ((conv => whnf); first | refine ngo ?_ | refine VB.tt ?_ | refine VB.ff ?_ | refine VNew.keep ?_ | refine dgo ?_ | refine sgo ?_ | fail)
    conv => whnf
    refine VLoop.ix true (fun i : Nat => ⟨[(0, natL l), (3, .int .i64 i)], [], []⟩) (fun i => i ≤ l.length ∧ okL (l.take i)) (fun i => l.length - i) 0 ⟨Nat.zero_le _, by simp [okL]⟩ ⟨⟨rfl, rfl, trivial⟩, rfl, rfl⟩ ?_
    rintro i ⟨hi, hd⟩
    have hBB : BB = 1000000000 := rfl
    repeat' ((conv => whnf); first | refine ngo ?_ | refine VB.tt ?_ | refine VB.ff ?_ | refine VNew.keep ?_ | refine dgo ?_ | refine sgo ?_ | fail)
    conv => whnf
    refine VB.dec (fun h => ?_) (fun h => ?_)
    · have hx : l.getD i 0 ∈ l := by
        simp [List.getD_eq_getElem?_getD, show i < l.length by omega]
      have hx2 : l[i]'(by omega) = l.getD i 0 := by simp [List.getD_eq_getElem?_getD, show i < l.length by omega]
      repeat' ((conv => whnf); first | refine ngo ?_ | refine VB.tt ?_ | refine VB.ff ?_ | refine VNew.keep ?_ | refine dgo ?_ | refine sgo ?_ | fail)
      conv => whnf
      rw [Int.toNat_natCast, Nat.mul_one, getInt_limbs]
      refine VB.dec (fun h1 => ?_) (fun h1 => ?_)
      · repeat' ((conv => whnf); first | refine ngo ?_ | refine VB.tt ?_ | refine VB.ff ?_ | refine VNew.keep ?_ | refine dgo ?_ | refine sgo ?_ | fail)
        conv => whnf
        rw [hc, canonB_false (fun hcc => absurd (hcc.1 _ hx) (by omega))]
        rfl
      · repeat' ((conv => whnf); first | refine ngo ?_ | refine VB.tt ?_ | refine VB.ff ?_ | refine VNew.keep ?_ | refine dgo ?_ | refine sgo ?_ | fail)
        conv => whnf
        refine ⟨i + 1, ⟨by omega, ?_⟩, by omega, ⟨⟨rfl, by simp [lk], trivial⟩, rfl, rfl⟩⟩
        rw [List.take_succ_eq_append_getElem (by omega)]
        refine okL_append.2 ⟨hd, fun x hx => ?_⟩
        rw [List.mem_singleton.1 hx, hx2]
        omega
    · have : i = l.length := by omega
      subst this
      rw [List.take_length] at hd
      have e : l.all (fun x => decide (x < BB)) = true := List.all_eq_true.2 fun x hx => decide_eq_true (hd x hx)
      unfold canonB at hc
      rw [e] at hc
      repeat' ((conv => whnf); first | refine ngo ?_ | refine VB.tt ?_ | refine VB.ff ?_ | refine VNew.keep ?_ | refine dgo ?_ | refine sgo ?_ | fail)
      conv => whnf
      by_cases h0 : (l.length : Int) > 0
      · rw [decide_eq_true h0]
        have el : ((l.length : Int) - 1).toNat = l.length - 1 := by omega
        have hl : l.getLast? = some (l.getD (l.length - 1) 0) := by
          rw [List.getLast?_eq_getElem?, List.getD_eq_getElem?_getD, List.getElem?_eq_getElem (by omega)]
          rfl
        rw [hl] at hc
        repeat' ((conv => whnf); first | refine ngo ?_ | refine VB.tt ?_ | refine VB.ff ?_ | refine VNew.keep ?_ | refine dgo ?_ | refine sgo ?_ | fail)
        conv => whnf
        rw [el, Nat.mul_one, getInt_limbs]
        generalize l.getD (l.length - 1) 0 = x at *
        refine VB.eq (fun h1 => ?_) (fun h1 => ?_)
        · have h1 : x = 0 := by omega
          subst h1
          repeat' ((conv => whnf); first | refine ngo ?_ | refine VB.tt ?_ | refine VB.ff ?_ | refine VNew.keep ?_ | refine dgo ?_ | refine sgo ?_ | fail)
          conv => whnf
          rw [hc]
          rfl
        · have h1 : x ≠ 0 := by omega
          repeat' ((conv => whnf); first | refine ngo ?_ | refine VB.tt ?_ | refine VB.ff ?_ | refine VNew.keep ?_ | refine dgo ?_ | refine sgo ?_ | fail)
          conv => whnf
          rw [hc]
          simp [h1]
      · rw [decide_eq_false h0]
        have : l = [] := List.length_eq_zero_iff.1 (by omega)
        subst this
        repeat' ((conv => whnf); first | refine ngo ?_ | refine VB.tt ?_ | refine VB.ff ?_ | refine VNew.keep ?_ | refine dgo ?_ | refine sgo ?_ | fail)
        conv => whnf
        rfl

theorem dg_single {n : Nat} (h : n < BB) : val [n] = n := by simp [val]

theorem rsmall_c {n : Nat} (hn : n < BB) : VCall EE 114 [.int .u32 n] [] fun v H => v = natv n := by
  refine VCall.of_body true Try.func114 rfl (by decide) rfl ?_
  repeat' ((conv => whnf); first | refine ngo ?_ | refine VB.tt ?_ | refine VB.ff ?_ | refine dgo ?_ | refine sgo ?_ | fail)
  conv => whnf
  refine VNew.dat (cs' := limbs [n]) rfl rfl ?_
  repeat' ((conv => whnf); first | refine ngo ?_ | refine VB.tt ?_ | refine VB.ff ?_ | refine VNew.keep ?_ | refine dgo ?_ | refine sgo ?_ | fail)
  conv => whnf
  have h := rtrim_c (l := [n]) (by intro x hx; rw [List.mem_singleton.1 hx]; exact hn) (by simp)
  rw [dg_single hn] at h
  show VCall EE _ [natL [n]] _ _
  refine VCall.isoS h (by repeat' (first | exact trivial | exact low_natL 0 _ | exact low_limbs 0 _ | refine And.intro ?_ ?_ | fail)) (by repeat' (first | exact trivial | exact low_natL 0 _ | exact low_limbs 0 _ | refine And.intro ?_ ?_ | fail)) ?_
  repeat' ((conv => whnf); first | refine ngo ?_ | refine VB.tt ?_ | refine VB.ff ?_ | refine VNew.keep ?_ | refine dgo ?_ | refine sgo ?_ | fail)
  conv => whnf
  rfl

theorem copyD {l : List Nat} : List.take (l.length * 1) (List.drop 0 (List.take (0 * 1) ([] : List AV) ++ limbs l)) = limbs l := by
  rw [Nat.mul_one]; exact List.take_of_length_le (by simp [limbs])

theorem rfits_c {n : Nat} (hn : (dg n).length < 1000000000000) : VCall EE 93 [natv n] [] fun v H => Fz H 0 [] v (.tup [natv (if 1024 < (dg n).length then 0 else n), .int .i64 (if 1024 < (dg n).length then 5 else 0)]) := by
  refine VCall.of_body true Try.func93 rfl (by decide) rfl ?_
  repeat' ((conv => whnf); first | refine ngo ?_ | refine VB.tt ?_ | refine VB.ff ?_ | refine VNew.keep ?_ | refine dgo ?_ | refine sgo ?_ | fail)
  conv => whnf
  refine VB.dec (fun h => ?_) (fun h => ?_)
  · repeat' ((conv => whnf); first | refine ngo ?_ | refine VB.tt ?_ | refine VB.ff ?_ | refine VNew.keep ?_ | refine dgo ?_ | refine sgo ?_ | fail)
    conv => whnf
    rw [if_pos (by omega), if_pos (by omega)]
    repeat' (first | exact fz_nil0 | exact Fz.nsl | exact Fz.same rfl (by repeat' (first | exact trivial | exact low_natL 0 _ | exact low_limbs 0 _ | refine And.intro ?_ ?_ | fail)) | refine Fz.tup ?_ | refine FzL.cons ?_ ?_ | exact FzL.nil | fail)
  · repeat' ((conv => whnf); first | refine ngo ?_ | refine VB.tt ?_ | refine VB.ff ?_ | refine VNew.keep ?_ | refine dgo ?_ | refine sgo ?_ | fail)
    conv => whnf
    rw [if_neg (by omega), if_neg (by omega)]
    refine .tup (.cons ?_ (.cons (.same rfl trivial) .nil))
    exact .nat (Nat.zero_le _) (by simp) rfl (by rw [Nat.mul_one, Nat.zero_add]; exact List.take_of_length_le (by simp [limbs])) (by simp)
end Go.Proofs.Ytoijfbdjlagooaa


/- Contracts: the reference's products and differences. -/
namespace Go.Proofs.Ytoijfbdjlagooaa
open Go Go.RowKit
set_option linter.unusedVariables false
set_option linter.unusedSimpArgs false
set_option maxRecDepth 100000

theorem rtimes_c {a b : List Nat} (ha : okL a) (hb : okL b) (la : a.length < 100000000) (lb : b.length < 100000000) :
    VCall EE 96 [natL a, natL b] [] fun v H => Fz H 0 [] v (natv (val a * val b)) := by
  refine VCall.of_body true Try.func96 rfl (by decide) rfl ?_
  repeat' ((conv => whnf); first | refine ngo ?_ | refine VB.tt ?_ | refine VB.ff ?_ | refine VNew.keep ?_ | refine dgo ?_ | refine sgo ?_ | fail)
  conv => whnf
  refine VLoop.ix true (fun x : Nat × List Nat => ⟨[(0, natL a), (1, natL b), (5, .osl 0 0 0 x.2.length 1), (6, .int .i64 x.1)], [.cells 0 41 (limbs x.2)], []⟩)
    (fun x => x.1 ≤ a.length ∧ x.2.length = a.length + b.length ∧ okL x.2 ∧ val x.2 = val (a.take x.1) * val b) (fun x => a.length - x.1) (0, List.replicate (a.length + b.length) 0)
    ⟨Nat.zero_le _, by simp, okL_zeros _, by simp [val_zeros, val]⟩ ⟨⟨rfl, rfl, by simp [lk]; omega, rfl, trivial⟩, by show [AObj.cells 0 _ (reps _ _)] = _; rw [show ((a.length : Int) + (b.length : Int)).toNat = a.length + b.length by omega]; exact congrArg (fun x => [AObj.cells 0 41 x]) (limbs_zeros _), rfl⟩ ?_
  rintro ⟨i, l⟩ ⟨hi, hll, hok, hv⟩
  dsimp only at hi hll hok hv ⊢
  repeat' ((conv => whnf); first | refine ngo ?_ | refine VB.tt ?_ | refine VB.ff ?_ | refine VNew.keep ?_ | refine dgo ?_ | refine sgo ?_ | fail)
  conv => whnf
  refine VB.dec (fun h => ?_) (fun h => ?_)
  · repeat' ((conv => whnf); first | refine ngo ?_ | refine VB.tt ?_ | refine VB.ff ?_ | refine VNew.keep ?_ | refine dgo ?_ | refine sgo ?_ | fail)
    conv => whnf
    have hvl : val l < BB ^ (i + b.length) := by
      rw [hv, Nat.pow_add]
      have h1 := val_lt (ha.take i)
      rw [List.length_take, Nat.min_eq_left (by omega)] at h1
      exact Nat.mul_lt_mul'' h1 (val_lt hb)
    have hx := getD_lt ha i
    generalize hxx : a.getD i 0 = x at hx
    refine VLoop.ix true (fun y : Nat × List Nat × Nat => ⟨[(0, natL a), (1, natL b), (5, .osl 0 0 0 y.2.1.length 1), (6, .int .i64 i), (7, .int .u64 y.2.2), (8, .int .i64 y.1)], [.cells 0 41 (limbs y.2.1)], []⟩)
      (fun y => y.1 ≤ b.length ∧ y.2.1.length = a.length + b.length ∧ okL y.2.1 ∧ y.2.2 < BB ∧ y.2.1.getD (i + b.length) 0 = 0 ∧ val y.2.1 + BB ^ (i + y.1) * y.2.2 = val (a.take i) * val b + BB ^ i * (x * val (b.take y.1))) (fun y => b.length - y.1) (0, l, 0)
      ⟨Nat.zero_le _, hll, hok, Nat.zero_lt_succ _, getD_zero_of_lt hok hvl, by simp [hv, val]⟩ ⟨⟨rfl, rfl, rfl, rfl, rfl, rfl, trivial⟩, rfl, rfl⟩ ?_
    rintro ⟨k, m, c⟩ ⟨hk, hml, hmok, hc, hz, hmv⟩
    dsimp only at hk hml hmok hc hz hmv ⊢
    repeat' ((conv => whnf); first | refine ngo ?_ | refine VB.tt ?_ | refine VB.ff ?_ | refine VNew.keep ?_ | refine dgo ?_ | refine sgo ?_ | fail)
    conv => whnf
    refine VB.dec (fun hkb => ?_) (fun hkb => ?_)
    · have hy := getD_lt hb k
      have hd := getD_lt hmok (i + k)
      have hBB : BB = 1000000000 := rfl
      have e1 : ((i : Int) + (k : Int)).toNat = i + k := by omega
      have hp := mul_lt_BB hx hy hc hd
      have hBB2 : BB * BB = 1000000000000000000 := rfl
      have g3 : getInt (List.drop ((i : Int).toNat * 1) (limbs a)) = (x : Int) := by rw [Int.toNat_natCast, Nat.mul_one, getInt_limbs, hxx]
      generalize hyy : b.getD k 0 = y at *
      generalize hdd : m.getD (i + k) 0 = d at *
      have g1 : getInt (List.drop (0 + ((i : Int) + (k : Int)).toNat * 1) (limbs m)) = (d : Int) := by rw [e1, Nat.zero_add, Nat.mul_one, getInt_limbs, hdd]
      have g2 : getInt (List.drop ((k : Int).toNat * 1) (limbs b)) = (y : Int) := by rw [Int.toNat_natCast, Nat.mul_one, getInt_limbs, hyy]
      obtain ⟨n, hn⟩ : ∃ n, n = d + x * y + c := ⟨_, rfl⟩
      have g0 : (c : Int) + (d : Int) + (x : Int) * (y : Int) = (n : Int) := by rw [hn]; simp only [Int.natCast_add, Int.natCast_mul]; omega
      have hm := Nat.mod_lt n (show 0 < BB by decide)
      have hdv : n / BB < BB := Nat.div_lt_of_lt_mul (by omega)
      have hmd := Nat.mod_add_div n BB
      have g5 := tdiv_BB n
      have g6 := tmod_BB n
      generalize n / BB = q at *
      generalize n % BB = r at *
      repeat' ((conv => whnf); first | refine ngo ?_ | refine VB.tt ?_ | refine VB.ff ?_ | refine VNew.keep ?_ | refine dgo ?_ | refine sgo ?_ | fail)
      conv => whnf
      rw [g1]
      repeat' ((conv => whnf); first | refine ngo ?_ | refine VB.tt ?_ | refine VB.ff ?_ | refine VNew.keep ?_ | refine dgo ?_ | refine sgo ?_ | fail)
      conv => whnf
      rw [g3]
      repeat' ((conv => whnf); first | refine ngo ?_ | refine VB.tt ?_ | refine VB.ff ?_ | refine VNew.keep ?_ | refine dgo ?_ | refine sgo ?_ | fail)
      conv => whnf
      rw [g2]
      repeat' ((conv => whnf); first | refine ngo ?_ | refine VB.tt ?_ | refine VB.ff ?_ | refine VNew.keep ?_ | refine dgo ?_ | refine sgo ?_ | fail)
      conv => whnf
      rw [g0]
      repeat' ((conv => whnf); first | refine ngo ?_ | refine VB.tt ?_ | refine VB.ff ?_ | refine VNew.keep ?_ | refine dgo ?_ | refine sgo ?_ | fail)
      conv => whnf
      rw [g6]
      repeat' ((conv => whnf); first | refine ngo ?_ | refine VB.tt ?_ | refine VB.ff ?_ | refine VNew.keep ?_ | refine dgo ?_ | refine sgo ?_ | fail)
      conv => whnf
      refine ⟨(k + 1, m.set (i + k) r, q), ⟨by omega, by simpa using hml, okL_set hmok _ hm, hdv, ?_, ?_⟩, by dsimp only; omega, ⟨⟨rfl, rfl, ?_, rfl, ?_, rfl, trivial⟩, ?_, rfl⟩⟩
      · dsimp only
        rw [List.getD_eq_getElem?_getD, List.getElem?_set_ne (by omega), ← List.getD_eq_getElem?_getD]
        exact hz
      · dsimp only
        have hs := val_set (l := m) (j := i + k) (by omega) r
        have ht := val_take_succ (l := b) (i := k) (by omega)
        rw [hdd] at hs
        rw [hyy] at ht
        rw [ht]
        have e2 : BB ^ (i + (k + 1)) * q = BB ^ (i + k) * (BB * q) := by rw [← Nat.add_assoc, Nat.pow_succ, Nat.mul_assoc]
        have e3 : BB ^ (i + k) * r + BB ^ (i + k) * (BB * q) = BB ^ (i + k) * d + BB ^ (i + k) * (x * y) + BB ^ (i + k) * c := by
          rw [← Nat.mul_add, hmd, hn, Nat.mul_add, Nat.mul_add]
        have e4 : BB ^ i * (x * (val (b.take k) + BB ^ k * y)) = BB ^ i * (x * val (b.take k)) + BB ^ (i + k) * (x * y) := by
          rw [Nat.mul_add, Nat.mul_add, Nat.pow_add]
          congr 1
          rw [Nat.mul_assoc, ← Nat.mul_assoc x, ← Nat.mul_assoc (BB ^ k), Nat.mul_comm x (BB ^ k)]
        omega
      · simp [lk]
      · simp [lk, g5]
      · show [AObj.cells 0 _ (splice _ _ _)] = _
        rw [e1, Nat.zero_add, Nat.mul_one, splice_limbs (by omega)]
    · have hkl : k = b.length := by omega
      subst hkl
      have hBB : BB = 1000000000 := rfl
      rw [List.take_length] at hmv
      repeat' ((conv => whnf); first | refine ngo ?_ | refine VB.tt ?_ | refine VB.ff ?_ | refine VNew.keep ?_ | refine dgo ?_ | refine sgo ?_ | fail)
      conv => whnf
      refine ⟨(i + 1, m.set (i + b.length) c), ⟨by omega, by simpa using hml, okL_set hmok _ hc, ?_⟩, by dsimp only; omega, ⟨⟨rfl, rfl, ?_, rfl, trivial⟩, ?_, rfl⟩⟩
      · dsimp only
        have hs := val_set (l := m) (j := i + b.length) (by omega) c
        rw [hz] at hs
        have ht := val_take_succ (l := a) (i := i) (by omega)
        rw [hxx] at ht
        rw [ht, Nat.add_mul, Nat.mul_assoc]
        omega
      · simp [lk]
      · show [AObj.cells 0 _ (splice _ _ _)] = _
        rw [show ((i : Int) + (b.length : Int)).toNat = i + b.length by omega, Nat.zero_add, Nat.mul_one, splice_limbs (by omega)]
  · have : i = a.length := by omega
    subst this
    rw [List.take_length] at hv
    repeat' ((conv => whnf); first | refine ngo ?_ | refine VB.tt ?_ | refine VB.ff ?_ | refine VNew.keep ?_ | refine dgo ?_ | refine sgo ?_ | fail)
    conv => whnf
    refine (rtrim_own (b := 0) (ver := 0) (e := 41) (l := l) rfl hok (Nat.le_refl _) (by omega)).mono fun v H' hq => ?_
    obtain ⟨rfl, rfl⟩ := hq
    rw [List.take_length, ← hv]
    repeat' ((conv => whnf); first | refine ngo ?_ | refine VB.tt ?_ | refine VB.ff ?_ | refine VNew.keep ?_ | refine dgo ?_ | refine sgo ?_ | fail)
    conv => whnf
    exact .nat (Nat.zero_le _) (by simp) rfl (by rw [Nat.mul_one, limbs_take, take_dg hok]) rfl

theorem rtimes_n {a b : Nat} (la : (dg a).length < 10000000) (lb : (dg b).length < 10000000) : VCall EE 96 [natv a, natv b] [] fun v H => Fz H 0 [] v (natv (a * b)) := by
  have := rtimes_c (okL_dg a) (okL_dg b) (by omega) (by omega)
  rwa [val_dg, val_dg] at this

theorem rtrim_nil {H : Heap} : VCall EE 110 [.nsl] H fun v H' => H' = H ∧ v = .nsl := by
  refine VCall.of_body true Try.func110 rfl (by decide) rfl ?_
  repeat' ((conv => whnf); first | refine ngo ?_ | refine VB.tt ?_ | refine VB.ff ?_ | refine VNew.keep ?_ | refine dgo ?_ | refine sgo ?_ | fail)
  conv => whnf
  refine VLoop.ix true (fun k : Nat => ⟨[(0, .nsl)], H, []⟩) (fun k => True) id 0 trivial ⟨⟨rfl, trivial⟩, rfl, rfl⟩ ?_
  rintro k hk
  repeat' ((conv => whnf); first | refine ngo ?_ | refine VB.tt ?_ | refine VB.ff ?_ | refine VNew.keep ?_ | refine dgo ?_ | refine sgo ?_ | fail)
  conv => whnf
  exact to_forceH ⟨rfl, rfl⟩

/-- A number in a block of its own, or none. -/
def accR (l : List Nat) (k : Nat) : AV := match l with
  | [] => .nsl
  | x :: l => .osl 0 l.length 0 k 1

set_option maxHeartbeats 2000000 in
theorem rminus_own {a b : List Nat} (ha : canon a) (hb : canon b) (la : a.length < 100000000) (hle : val b ≤ val a) :
    VCall EE 99 [natL a, natL b] [] fun v H => ∃ l, okL l ∧ val l = val a - val b ∧ H = accH 41 l ∧ v = accR l (dg (val a - val b)).length := by
  have lb : b.length ≤ a.length := by
    rcases Nat.lt_or_ge a.length b.length with h | h
    · have := canon_lt ha.1 hb h; omega
    · exact h
  refine VCall.of_body true Try.func99 rfl (by decide) rfl ?_
  repeat' ((conv => whnf); first | refine ngo ?_ | refine VB.tt ?_ | refine VB.ff ?_ | refine VNew.keep ?_ | refine dgo ?_ | refine sgo ?_ | fail)
  conv => whnf
  refine VLoop.tr true (fun x : Nat × List Nat × Nat => ⟨[(0, natL a), (1, natL b), (5, accV x.2.1), (6, .int .i64 x.2.2), (7, .int .i64 x.1)], accH 41 x.2.1, []⟩)
    (fun x => x.1 ≤ a.length ∧ x.2.1.length = x.1 ∧ okL x.2.1 ∧ x.2.2 ≤ 1 ∧ val x.2.1 + val (b.take x.1) = val (a.take x.1) + BB ^ x.1 * x.2.2) (fun x => a.length - x.1) (0, [], 0)
    ⟨Nat.zero_le _, rfl, by intro x hx; simp at hx, Nat.zero_le _, by simp [val]⟩ ⟨⟨rfl, rfl, rfl, rfl, rfl, trivial⟩, rfl, rfl⟩ ?_
  rintro ⟨i, l, c⟩ ⟨hi, hll, hok, hc, hv⟩
  dsimp only at hi hll hok hc hv ⊢
  repeat' ((conv => whnf); first | refine ngo ?_ | refine VB.tt ?_ | refine VB.ff ?_ | refine VNew.keep ?_ | refine dgo ?_ | refine sgo ?_ | fail)
  conv => whnf
  refine VB.dec (fun h => ?_) (fun h => ?_)
  · have hBB : BB = 1000000000 := rfl
    have hx := getD_lt ha.1 i
    have hy := getD_lt hb.1 i
    have hta := val_take_succ (l := a) (i := i) (by omega)
    have htb : val (b.take (i + 1)) = val (b.take i) + BB ^ i * b.getD i 0 := by
      rcases Nat.lt_or_ge i b.length with hlt | hge
      · exact val_take_succ hlt
      · rw [List.take_of_length_le hge, List.take_of_length_le (by omega)]
        simp [List.getD_eq_getElem?_getD, hge]
    have g1 : getInt (List.drop ((i : Int).toNat * 1) (limbs a)) = ((a.getD i 0 : Nat) : Int) := by rw [Int.toNat_natCast, Nat.mul_one, getInt_limbs]
    have g2 : getInt (List.drop ((i : Int).toNat * 1) (limbs b)) = ((b.getD i 0 : Nat) : Int) := by rw [Int.toNat_natCast, Nat.mul_one, getInt_limbs]
    have hy0 : b.length ≤ i → b.getD i 0 = 0 := fun hge => by simp [List.getD_eq_getElem?_getD, hge]
    generalize a.getD i 0 = x at *
    generalize b.getD i 0 = y at *
    obtain ⟨d, c', hd, hc', hdc⟩ : ∃ d c' : Nat, d < BB ∧ c' ≤ 1 ∧ d + y + c = x + BB * c' := by
      by_cases hlt : x < y + c
      · exact ⟨x + BB - y - c, 1, by omega, by omega, by omega⟩
      · exact ⟨x - y - c, 0, by omega, by omega, by omega⟩
    have hneg : ((x : Int) - (c : Int) - (y : Int) < 0) ↔ c' = 1 := by
      rcases Nat.le_one_iff_eq_zero_or_eq_one.1 hc' with rfl | rfl
      · exact ⟨fun h => by omega, fun h => by omega⟩
      · exact ⟨fun h => rfl, fun h => by omega⟩
    have hdv : BB ^ i * d + BB ^ i * y + BB ^ i * c = BB ^ i * x + BB ^ (i + 1) * c' := by
      rw [Nat.pow_succ, Nat.mul_assoc, ← Nat.mul_add, ← Nat.mul_add, ← Nat.mul_add, hdc]
    have hnew : val (l ++ [d]) + val (b.take (i + 1)) = val (a.take (i + 1)) + BB ^ (i + 1) * c' := by
      rw [val_append, hta, htb, hll]
      simp only [val, Nat.mul_zero, Nat.add_zero]
      omega
    have hok' : okL (l ++ [d]) := okL_append.2 ⟨hok, by intro z hz; rw [List.mem_singleton.1 hz]; exact hd⟩
    repeat' ((conv => whnf); first | refine ngo ?_ | refine VB.tt ?_ | refine VB.ff ?_ | refine VNew.keep ?_ | refine dgo ?_ | refine sgo ?_ | fail)
    conv => whnf
    rw [g1]
    repeat' ((conv => whnf); first | refine ngo ?_ | refine VB.tt ?_ | refine VB.ff ?_ | refine VNew.keep ?_ | refine dgo ?_ | refine sgo ?_ | fail)
    conv => whnf
    refine VB.dec (fun hib => ?_) (fun hib => ?_)
    · repeat' ((conv => whnf); first | refine ngo ?_ | refine VB.tt ?_ | refine VB.ff ?_ | refine VNew.keep ?_ | refine dgo ?_ | refine sgo ?_ | fail)
      conv => whnf
      rw [g2]
      repeat' ((conv => whnf); first | refine ngo ?_ | refine VB.tt ?_ | refine VB.ff ?_ | refine VNew.keep ?_ | refine dgo ?_ | refine sgo ?_ | fail)
      conv => whnf
      refine VB.dec (fun hn => ?_) (fun hn => ?_)
      · have hc1 := hneg.1 hn
        subst hc1
        have g3 : (x : Int) - (c : Int) - (y : Int) + 1000000000 = (d : Int) := by omega
        repeat' ((conv => whnf); first | refine ngo ?_ | refine VB.tt ?_ | refine VB.ff ?_ | refine VNew.keep ?_ | refine dgo ?_ | refine sgo ?_ | fail)
        conv => whnf
        rw [g3]
        cases l with
        | nil =>
          repeat' ((conv => whnf); first | refine ngo ?_ | refine VB.tt ?_ | refine VB.ff ?_ | refine VNew.keep ?_ | refine dgo ?_ | refine sgo ?_ | fail)
          conv => whnf
          refine ⟨(i + 1, [d], 1), ⟨by dsimp only; omega, by simp at hll ⊢; omega, hok', by simp, hnew⟩, by dsimp only; omega, [1], by simp, by simp, ⟨⟨_, rfl, .cells rfl (FzL.same rfl (low_limbs _ [d]))⟩, trivial⟩, ⟨⟨_, rfl, .same rfl (low_natL _ _)⟩, ⟨_, rfl, .same rfl (low_natL _ _)⟩, ⟨_, rfl, .kosl (j := 0) rfl rfl rfl rfl⟩, ⟨_, rfl, .same rfl trivial⟩, ⟨_, rfl, .same (by simp) trivial⟩, trivial⟩, rfl, by simp⟩
        | cons z l =>
          simp only [List.length_cons] at hll
          repeat' ((conv => whnf); first | refine ngo ?_ | refine VB.tt ?_ | refine VB.ff ?_ | refine VNew.keep ?_ | refine dgo ?_ | refine sgo ?_ | fail)
          conv => whnf
          refine ⟨(i + 1, z :: l ++ [d], 1), ⟨by dsimp only; omega, by simp at hll ⊢; omega, hok', by simp, hnew⟩, by dsimp only; omega, [0], by simp, by simp, ⟨⟨_, rfl, .cells (by simp) (FzL.same ?_ (low_limbs _ (z :: l ++ [d])))⟩, trivial⟩, ⟨⟨_, rfl, .same rfl (low_natL _ _)⟩, ⟨_, rfl, .same rfl (low_natL _ _)⟩, ⟨_, rfl, .kosl (j := 0) rfl rfl (by simp) (by simp)⟩, ⟨_, rfl, .same rfl trivial⟩, ⟨_, rfl, .same (by simp) trivial⟩, trivial⟩, rfl, by simp⟩
          rw [Nat.mul_one, List.take_of_length_le (by simp [limbs])]
          simp [limbs]
      · have hc1 : c' = 0 := by
          rcases Nat.eq_zero_or_pos c' with h0 | h0
          · exact h0
          · exact absurd (hneg.2 (by omega)) hn
        subst hc1
        have g3 : (x : Int) - (c : Int) - (y : Int) = (d : Int) := by omega
        rw [g3]
        cases l with
        | nil =>
          repeat' ((conv => whnf); first | refine ngo ?_ | refine VB.tt ?_ | refine VB.ff ?_ | refine VNew.keep ?_ | refine dgo ?_ | refine sgo ?_ | fail)
          conv => whnf
          refine ⟨(i + 1, [d], 0), ⟨by dsimp only; omega, by simp at hll ⊢; omega, hok', by simp, hnew⟩, by dsimp only; omega, [1], by simp, by simp, ⟨⟨_, rfl, .cells rfl (FzL.same rfl (low_limbs _ [d]))⟩, trivial⟩, ⟨⟨_, rfl, .same rfl (low_natL _ _)⟩, ⟨_, rfl, .same rfl (low_natL _ _)⟩, ⟨_, rfl, .kosl (j := 0) rfl rfl rfl rfl⟩, ⟨_, rfl, .same rfl trivial⟩, ⟨_, rfl, .same (by simp) trivial⟩, trivial⟩, rfl, by simp⟩
        | cons z l =>
          simp only [List.length_cons] at hll
          repeat' ((conv => whnf); first | refine ngo ?_ | refine VB.tt ?_ | refine VB.ff ?_ | refine VNew.keep ?_ | refine dgo ?_ | refine sgo ?_ | fail)
          conv => whnf
          refine ⟨(i + 1, z :: l ++ [d], 0), ⟨by dsimp only; omega, by simp at hll ⊢; omega, hok', by simp, hnew⟩, by dsimp only; omega, [0], by simp, by simp, ⟨⟨_, rfl, .cells (by simp) (FzL.same ?_ (low_limbs _ (z :: l ++ [d])))⟩, trivial⟩, ⟨⟨_, rfl, .same rfl (low_natL _ _)⟩, ⟨_, rfl, .same rfl (low_natL _ _)⟩, ⟨_, rfl, .kosl (j := 0) rfl rfl (by simp) (by simp)⟩, ⟨_, rfl, .same rfl trivial⟩, ⟨_, rfl, .same (by simp) trivial⟩, trivial⟩, rfl, by simp⟩
          rw [Nat.mul_one, List.take_of_length_le (by simp [limbs])]
          simp [limbs]
    · have hy00 := hy0 (by omega)
      subst hy00
      repeat' ((conv => whnf); first | refine ngo ?_ | refine VB.tt ?_ | refine VB.ff ?_ | refine VNew.keep ?_ | refine dgo ?_ | refine sgo ?_ | fail)
      conv => whnf
      refine VB.dec (fun hn => ?_) (fun hn => ?_)
      · have hc1 := hneg.1 (by omega)
        subst hc1
        have g3 : (x : Int) - (c : Int) + 1000000000 = (d : Int) := by omega
        repeat' ((conv => whnf); first | refine ngo ?_ | refine VB.tt ?_ | refine VB.ff ?_ | refine VNew.keep ?_ | refine dgo ?_ | refine sgo ?_ | fail)
        conv => whnf
        rw [g3]
        cases l with
        | nil =>
          repeat' ((conv => whnf); first | refine ngo ?_ | refine VB.tt ?_ | refine VB.ff ?_ | refine VNew.keep ?_ | refine dgo ?_ | refine sgo ?_ | fail)
          conv => whnf
          refine ⟨(i + 1, [d], 1), ⟨by dsimp only; omega, by simp at hll ⊢; omega, hok', by simp, hnew⟩, by dsimp only; omega, [1], by simp, by simp, ⟨⟨_, rfl, .cells rfl (FzL.same rfl (low_limbs _ [d]))⟩, trivial⟩, ⟨⟨_, rfl, .same rfl (low_natL _ _)⟩, ⟨_, rfl, .same rfl (low_natL _ _)⟩, ⟨_, rfl, .kosl (j := 0) rfl rfl rfl rfl⟩, ⟨_, rfl, .same rfl trivial⟩, ⟨_, rfl, .same (by simp) trivial⟩, trivial⟩, rfl, by simp⟩
        | cons z l =>
          simp only [List.length_cons] at hll
          repeat' ((conv => whnf); first | refine ngo ?_ | refine VB.tt ?_ | refine VB.ff ?_ | refine VNew.keep ?_ | refine dgo ?_ | refine sgo ?_ | fail)
          conv => whnf
          refine ⟨(i + 1, z :: l ++ [d], 1), ⟨by dsimp only; omega, by simp at hll ⊢; omega, hok', by simp, hnew⟩, by dsimp only; omega, [0], by simp, by simp, ⟨⟨_, rfl, .cells (by simp) (FzL.same ?_ (low_limbs _ (z :: l ++ [d])))⟩, trivial⟩, ⟨⟨_, rfl, .same rfl (low_natL _ _)⟩, ⟨_, rfl, .same rfl (low_natL _ _)⟩, ⟨_, rfl, .kosl (j := 0) rfl rfl (by simp) (by simp)⟩, ⟨_, rfl, .same rfl trivial⟩, ⟨_, rfl, .same (by simp) trivial⟩, trivial⟩, rfl, by simp⟩
          rw [Nat.mul_one, List.take_of_length_le (by simp [limbs])]
          simp [limbs]
      · have hc1 : c' = 0 := by
          rcases Nat.eq_zero_or_pos c' with h0 | h0
          · exact h0
          · exact absurd (hneg.2 (by omega)) (by omega)
        subst hc1
        have g3 : (x : Int) - (c : Int) = (d : Int) := by omega
        rw [g3]
        cases l with
        | nil =>
          repeat' ((conv => whnf); first | refine ngo ?_ | refine VB.tt ?_ | refine VB.ff ?_ | refine VNew.keep ?_ | refine dgo ?_ | refine sgo ?_ | fail)
          conv => whnf
          refine ⟨(i + 1, [d], 0), ⟨by dsimp only; omega, by simp at hll ⊢; omega, hok', by simp, hnew⟩, by dsimp only; omega, [1], by simp, by simp, ⟨⟨_, rfl, .cells rfl (FzL.same rfl (low_limbs _ [d]))⟩, trivial⟩, ⟨⟨_, rfl, .same rfl (low_natL _ _)⟩, ⟨_, rfl, .same rfl (low_natL _ _)⟩, ⟨_, rfl, .kosl (j := 0) rfl rfl rfl rfl⟩, ⟨_, rfl, .same rfl trivial⟩, ⟨_, rfl, .same (by simp) trivial⟩, trivial⟩, rfl, by simp⟩
        | cons z l =>
          simp only [List.length_cons] at hll
          repeat' ((conv => whnf); first | refine ngo ?_ | refine VB.tt ?_ | refine VB.ff ?_ | refine VNew.keep ?_ | refine dgo ?_ | refine sgo ?_ | fail)
          conv => whnf
          refine ⟨(i + 1, z :: l ++ [d], 0), ⟨by dsimp only; omega, by simp at hll ⊢; omega, hok', by simp, hnew⟩, by dsimp only; omega, [0], by simp, by simp, ⟨⟨_, rfl, .cells (by simp) (FzL.same ?_ (low_limbs _ (z :: l ++ [d])))⟩, trivial⟩, ⟨⟨_, rfl, .same rfl (low_natL _ _)⟩, ⟨_, rfl, .same rfl (low_natL _ _)⟩, ⟨_, rfl, .kosl (j := 0) rfl rfl (by simp) (by simp)⟩, ⟨_, rfl, .same rfl trivial⟩, ⟨_, rfl, .same (by simp) trivial⟩, trivial⟩, rfl, by simp⟩
          rw [Nat.mul_one, List.take_of_length_le (by simp [limbs])]
          simp [limbs]
  · have : i = a.length := by omega
    subst this
    rw [List.take_length, List.take_of_length_le lb] at hv
    have hvl := val_lt hok
    rw [hll] at hvl
    have hc0 : c = 0 := by
      rcases Nat.eq_zero_or_pos c with h0 | h0
      · exact h0
      · have h1 : c = 1 := by omega
        subst h1
        omega
    subst hc0
    have hv' : val l = val a - val b := by omega
    cases l with
    | nil =>
      repeat' ((conv => whnf); first | refine ngo ?_ | refine VB.tt ?_ | refine VB.ff ?_ | refine VNew.keep ?_ | refine dgo ?_ | refine sgo ?_ | fail)
      conv => whnf
      refine rtrim_nil.mono fun v H' hq => ?_
      obtain ⟨rfl, rfl⟩ := hq
      repeat' ((conv => whnf); first | refine ngo ?_ | refine VB.tt ?_ | refine VB.ff ?_ | refine VNew.keep ?_ | refine dgo ?_ | refine sgo ?_ | fail)
      conv => whnf
      exact ⟨[], hok, hv', rfl, rfl⟩
    | cons z l =>
      simp only [List.length_cons] at hll
      repeat' ((conv => whnf); first | refine ngo ?_ | refine VB.tt ?_ | refine VB.ff ?_ | refine VNew.keep ?_ | refine dgo ?_ | refine sgo ?_ | fail)
      conv => whnf
      refine (rtrim_own (b := 0) (ver := l.length) (e := 41) (l := z :: l) (k0 := l.length + 1) rfl hok (Nat.le_refl _) (by omega)).mono fun v H' hq => ?_
      obtain ⟨rfl, rfl⟩ := hq
      rw [List.take_of_length_le (by simp), hv']
      repeat' ((conv => whnf); first | refine ngo ?_ | refine VB.tt ?_ | refine VB.ff ?_ | refine VNew.keep ?_ | refine dgo ?_ | refine sgo ?_ | fail)
      conv => whnf
      exact ⟨z :: l, hok, hv', rfl, rfl⟩

theorem rminus_n {a b : Nat} (la : (dg a).length < 10000000) (hle : b ≤ a) : VCall EE 99 [natv a, natv b] [] fun v H => Fz H 0 [] v (natv (a - b)) := by
  refine (rminus_own (canon_dg a) (canon_dg b) (by omega) (by rwa [val_dg, val_dg])).mono fun v H hz => ?_
  obtain ⟨l, h1, h2, rfl, rfl⟩ := hz
  rw [val_dg, val_dg] at *
  cases l with
  | nil =>
    rw [← h2]
    exact fz_nil0
  | cons x l => exact .nat (Nat.zero_le _) (by simp) rfl (by rw [Nat.mul_one, ← h2, limbs_take, take_dg h1]) rfl
end Go.Proofs.Ytoijfbdjlagooaa


/- Contracts: the reference's quotients, the estimate. -/
namespace Go.Proofs.Ytoijfbdjlagooaa
open Go Go.RowKit
set_option linter.unusedVariables false
set_option linter.unusedSimpArgs false
set_option maxRecDepth 100000

structure OvC (f n lq A V top : Nat) : Prop where
  hf1 : 1 ≤ f
  hf2 : f < BB
  hn : 1 ≤ n
  hnn : n = (dg V).length
  hn2 : n < 9000000
  hlq2 : lq < 20000000
  hlq : lq + n = (dg A).length + 1
  htop : top < BB
  htop0 : top ≠ 0
  hV : top * BB ^ (n - 1) ≤ V
  hV0 : 0 < V
  hVpow : V < BB ^ n

def oFr (f n lq A V top : Nat) (i : Int) (r : AV) : Fr := [(0, natv A), (1, natv V), (4, .osl 0 0 0 lq 1), (5, r), (6, .dsl (limbs [f]) 1), (7, .int .u64 top), (8, .int .i64 n), (9, .int .i64 i)]

theorem lead_loop {f n lq A V top W : Nat} {i : Int} {H : Heap} (hc : OvC f n lq A V top) (hW : W < V * BB) :
    VLoop EE Try.f104.ntmps none (nthLoop Try.f104 1) (fun e s => e = .exit 2 ∧ ∃ y : Unit, True ∧ Meets ⟨(10, .int .u64 ((W / BB ^ (n - 1) : Nat) : Int)) :: oFr f n lq A V top i (natv W), H, []⟩ s)
      ⟨(10, .int .u64 (0 : Nat)) :: (11, .int .i64 ((dg W).length - 1)) :: oFr f n lq A V top i (natv W), H, []⟩ := by
  have hn := hc.hn
  have hn2 := hc.hn2
  have hnn := hc.hnn
  have hBB : BB = 1000000000 := rfl
  have hBB2 : BB * BB = 1000000000000000000 := rfl
  have hWl : (dg W).length ≤ n + 1 := length_dg_lt (by
    rw [Nat.pow_succ]
    exact Nat.lt_of_lt_of_le hW (Nat.mul_le_mul_right _ (Nat.le_of_lt hc.hVpow)))
  have hok := okL_dg W
  refine VLoop.ix true (fun x : Nat => ⟨(10, .int .u64 ((val ((dg W).drop x) : Nat) : Int)) :: (11, .int .i64 ((x : Int) - 1)) :: oFr f n lq A V top i (natv W), H, []⟩) (fun x => x ≤ (dg W).length ∧ (n - 1 ≤ x ∨ x = (dg W).length)) id (dg W).length ⟨Nat.le_refl _, .inr rfl⟩
    ⟨⟨by simp [lk, val], rfl, rfl, rfl, rfl, rfl, rfl, rfl, rfl, rfl, trivial⟩, rfl, rfl⟩ ?_
  rintro x ⟨hx, hx2⟩
  have hvd := val_drop hok x
  have hvn := val_drop hok (n - 1)
  rw [val_dg] at hvd hvn
  have hlt := val_lt (hok.drop x)
  rw [List.length_drop] at hlt
  have hcons : ∀ y, y < (dg W).length → val ((dg W).drop y) = (dg W).getD y 0 + BB * val ((dg W).drop (y + 1)) := fun y hy => by
    rw [List.drop_eq_getElem_cons hy, val]
    simp [List.getD_eq_getElem?_getD, hy]
  repeat' ((conv => whnf); first | refine ngo ?_ | refine VB.tt ?_ | refine VB.ff ?_ | refine VNew.keep ?_ | refine dgo ?_ | refine sgo ?_ | fail)
  conv => whnf
  refine VB.dec (fun h => ?_) (fun h => ?_)
  · obtain ⟨x, rfl⟩ : ∃ k, x = k + 1 := ⟨x - 1, by omega⟩
    have ex : (((x + 1 : Nat) : Int) - 1).toNat = x := by omega
    have g1 : getInt (List.drop ((((x + 1 : Nat) : Int) - 1).toNat * 1) (limbs (dg W))) = (((dg W).getD x 0 : Nat) : Int) := by rw [ex, Nat.mul_one, getInt_limbs]
    have hxl := getD_lt hok x
    have hcx := hcons x (by omega)
    have hsm : val ((dg W).drop (x + 1)) < BB := by
      refine Nat.lt_of_lt_of_le hlt ?_
      calc BB ^ ((dg W).length - (x + 1)) ≤ BB ^ 1 := Nat.pow_le_pow_right (by decide) (by omega)
        _ = BB := Nat.pow_one _
    generalize val ((dg W).drop (x + 1)) = le at *
    generalize hle' : val ((dg W).drop x) = le' at *
    generalize (dg W).getD x 0 = z at *
    have g0 : (le : Int) * 1000000000 + (z : Int) = (le' : Int) := by rw [hcx, hBB]; omega
    repeat' ((conv => whnf); first | refine ngo ?_ | refine VB.tt ?_ | refine VB.ff ?_ | refine VNew.keep ?_ | refine dgo ?_ | refine sgo ?_ | fail)
    conv => whnf
    rw [g1]
    repeat' ((conv => whnf); first | refine ngo ?_ | refine VB.tt ?_ | refine VB.ff ?_ | refine VNew.keep ?_ | refine dgo ?_ | refine sgo ?_ | fail)
    conv => whnf
    rw [g0]
    repeat' ((conv => whnf); first | refine ngo ?_ | refine VB.tt ?_ | refine VB.ff ?_ | refine VNew.keep ?_ | refine dgo ?_ | refine sgo ?_ | fail)
    conv => whnf
    refine ⟨x, ⟨by omega, .inl (by omega)⟩, by simp, ⟨⟨?_, ?_, rfl, rfl, rfl, rfl, rfl, rfl, rfl, rfl, trivial⟩, rfl, rfl⟩⟩
    · simp [lk, hle']
    · simp [lk]
  · have hfin : val ((dg W).drop x) = W / BB ^ (n - 1) := by
      rcases Nat.lt_or_ge (n - 1) x with h1 | h1
      · omega
      · rcases Nat.eq_or_lt_of_le h1 with h1 | h1
        · rw [hvd, h1]
        · have : x = (dg W).length := by omega
          rw [← hvn, List.drop_eq_nil_of_le (by omega), List.drop_eq_nil_of_le (by omega)]
    repeat' ((conv => whnf); first | refine ngo ?_ | refine VB.tt ?_ | refine VB.ff ?_ | refine VNew.keep ?_ | refine dgo ?_ | refine sgo ?_ | fail)
    conv => whnf
    exact ⟨(), trivial, ⟨⟨by simp only [lk]; rw [hfin]; rfl, rfl, rfl, rfl, rfl, rfl, rfl, rfl, rfl, trivial⟩, rfl, rfl⟩⟩

theorem down_loop {f n lq A V top W d0 : Nat} {i : Int} {H : Heap} (hc : OvC f n lq A V top) (hWl : (dg W).length < 30000000) (hd0 : d0 < BB) (hq0 : W / V ≤ d0) :
    VLoop EE Try.f104.ntmps none (nthLoop Try.f104 2) (fun e s => e = .exit 4 ∧ ∃ y : Heap, (∃ R, y = H ++ R) ∧ Meets ⟨(12, .int .u64 ((W / V : Nat) : Int)) :: oFr f n lq A V top i (natv W), H, []⟩ s)
      ⟨(12, .int .u64 (d0 : Nat)) :: oFr f n lq A V top i (natv W), H, []⟩ := by
  have hn := hc.hn
  have hn2 := hc.hn2
  have hnn := hc.hnn
  have hV0 := hc.hV0
  have hVl : (dg V).length = n := hnn.symm
  have hBB : BB = 1000000000 := rfl
  refine VLoop.ix true (fun d : Nat => ⟨(12, .int .u64 (d : Int)) :: oFr f n lq A V top i (natv W), H, []⟩) (fun d => d < BB ∧ W / V ≤ d) id d0 ⟨hd0, hq0⟩
    ⟨⟨rfl, rfl, rfl, rfl, rfl, rfl, rfl, rfl, rfl, trivial⟩, rfl, rfl⟩ ?_
  rintro d ⟨hd, hq⟩
  have hdl : (dg d).length ≤ 1 := length_dg_lt (by simpa using hd)
  have hVdl : (dg (V * d)).length ≤ n + 1 := length_dg_lt (by
    rw [Nat.pow_succ]
    exact Nat.mul_lt_mul'' hc.hVpow hd)
  repeat' ((conv => whnf); first | refine ngo ?_ | refine VB.tt ?_ | refine VB.ff ?_ | refine VNew.keep ?_ | refine dgo ?_ | refine sgo ?_ | fail)
  conv => whnf
  refine VCall.s (rsmall_c hd) ?_
  repeat' ((conv => whnf); first | refine ngo ?_ | refine VB.tt ?_ | refine VB.ff ?_ | refine VNew.keep ?_ | refine dgo ?_ | refine sgo ?_ | fail)
  conv => whnf
  refine VCall.i (rtimes_n (by omega) (by omega)) ?_
  repeat' ((conv => whnf); first | refine ngo ?_ | refine VB.tt ?_ | refine VB.ff ?_ | refine VNew.keep ?_ | refine dgo ?_ | refine sgo ?_ | fail)
  conv => whnf
  refine VCall.s (rorder_c (canon_dg _) (canon_dg _) (by omega) (by omega)) ?_
  rw [val_dg, val_dg]
  repeat' ((conv => whnf); first | refine ngo ?_ | refine VB.tt ?_ | refine VB.ff ?_ | refine VNew.keep ?_ | refine dgo ?_ | refine sgo ?_ | fail)
  conv => whnf
  refine VB.dec (fun h => ?_) (fun h => ?_)
  · have hgt : W < V * d := by
      unfold cmpN at h
      split at h
      · exact absurd h (by decide)
      · split at h
        · exact absurd h (by decide)
        · omega
    have h1 : 1 ≤ d := Nat.pos_of_ne_zero (by rintro rfl; simp at hgt)
    have h2 : W / V < d := (Nat.div_lt_iff_lt_mul hV0).2 (by rwa [Nat.mul_comm])
    repeat' ((conv => whnf); first | refine ngo ?_ | refine VB.tt ?_ | refine VB.ff ?_ | refine VNew.keep ?_ | refine dgo ?_ | refine sgo ?_ | fail)
    conv => whnf
    exact ⟨d - 1, ⟨by omega, by omega⟩, by simp only [id]; omega, ⟨⟨by simp [lk]; omega, rfl, rfl, rfl, rfl, rfl, rfl, rfl, rfl, trivial⟩, rfl, rfl⟩⟩
  · have hle : V * d ≤ W := by
      unfold cmpN at h
      split at h
      · omega
      · split at h
        · omega
        · exact absurd (by decide) h
    have h2 : d ≤ W / V := (Nat.le_div_iff_mul_le hV0).2 (by rwa [Nat.mul_comm])
    have h3 : d = W / V := by
      generalize W / V = w at *
      omega
    subst h3
    repeat' ((conv => whnf); first | refine ngo ?_ | refine VB.tt ?_ | refine VB.ff ?_ | refine VNew.keep ?_ | refine dgo ?_ | refine sgo ?_ | fail)
    conv => whnf
    exact ⟨H, ⟨[], by simp⟩, ⟨⟨rfl, rfl, rfl, rfl, rfl, rfl, rfl, rfl, rfl, trivial⟩, rfl, rfl⟩⟩
end Go.Proofs.Ytoijfbdjlagooaa


/- Contracts: the reference's quotients, the digits. -/
namespace Go.Proofs.Ytoijfbdjlagooaa
open Go Go.RowKit
set_option linter.unusedVariables false
set_option linter.unusedSimpArgs false
set_option maxRecDepth 100000

theorem over_est {V top P W : Nat} (hV : top * P ≤ V) (ht : 0 < top) (hP : 0 < P) : W / V ≤ W / P / top := by
  have hV0 : 0 < V := Nat.lt_of_lt_of_le (Nat.mul_pos ht hP) hV
  rw [Nat.le_div_iff_mul_le ht, Nat.le_div_iff_mul_le hP]
  have h1 := Nat.div_mul_le_self W V
  generalize W / V = q at *
  have h2 := Nat.mul_le_mul_left q hV
  rw [← Nat.mul_assoc] at h2
  omega

theorem over_step {A V Q R j aj W : Nat} (h : A / BB ^ (j + 1) = V * Q + R) (ha : aj = A / BB ^ j % BB) (hW : W = aj + BB * R) : A / BB ^ j = V * (W / V + BB * Q) + W % V := by
  have e1 : A / BB ^ j = BB * (A / BB ^ (j + 1)) + aj := by
    rw [ha, Nat.pow_succ, ← Nat.div_div_eq_div_mul]
    exact (Nat.div_add_mod _ _).symm
  have h2 := Nat.div_add_mod W V
  rw [e1, h, Nat.mul_add, Nat.mul_add]
  rw [hW] at h2 ⊢
  generalize (aj + BB * R) / V = w at *
  generalize (aj + BB * R) % V = r at *
  rw [Nat.mul_left_comm]
  omega

/-- The rest in the second block, or none. -/
def accR1 (l : List Nat) (k : Nat) : AV := match l with
  | [] => .nsl
  | x :: l => .osl 1 l.length 0 k 1
def oSt (f n lq A V top : Nat) (j : Nat) (q rl : List Nat) : St := match j with
  | 0 => ⟨oFr f n lq A V top (-1) (accR1 rl (dg (val rl)).length), .cells 0 41 (limbs q) :: accH 41 rl, []⟩
  | j + 1 => ⟨oFr f n lq A V top (j : Nat) (natL rl), [.cells 0 41 (limbs q)], []⟩

set_option maxHeartbeats 1000000 in
theorem over_loop {f n lq A V top : Nat} {q0 r0 : List Nat} (hc : OvC f n lq A V top) (hlq0 : 1 ≤ lq) (hql0 : q0.length = lq) (hq0 : okL q0) (hqz0 : ∀ k, q0.getD k 0 = 0) (hr0 : okL r0) (hr1 : val r0 = A / BB ^ lq) (hr2 : r0.length ≤ n) (hr3 : val r0 < V) :
    VLoop EE Try.f104.ntmps none (nthLoop Try.f104 0) (fun e s => e = .exit 0 ∧ ∃ y : List Nat × List Nat, (y.1.length = lq ∧ okL y.1 ∧ okL y.2 ∧ val y.2 < V ∧ A = V * val y.1 + val y.2) ∧
      Meets ⟨[(4, .osl 0 0 0 lq 1), (5, accR1 y.2 (dg (val y.2)).length), (6, .dsl (limbs [f]) 1)], .cells 0 41 (limbs y.1) :: accH 41 y.2, []⟩ s)
      ⟨oFr f n lq A V top ((lq : Int) - 1) (natL r0), [.cells 0 41 (limbs q0)], []⟩ := by
  have hn := hc.hn
  have hn2 := hc.hn2
  have hnn := hc.hnn
  have hlq2 := hc.hlq2
  have hlq := hc.hlq
  have hV0 := hc.hV0
  have htop := hc.htop
  have htop0 := hc.htop0
  have hBB : BB = 1000000000 := rfl
  have hBB2 : BB * BB = 1000000000000000000 := rfl
  refine VLoop.tr true (fun x : Nat × List Nat × List Nat => oSt f n lq A V top x.1 x.2.1 x.2.2)
    (fun x => x.1 ≤ lq ∧ x.2.1.length = lq ∧ okL x.2.1 ∧ okL x.2.2 ∧ val x.2.2 < V ∧ (1 ≤ x.1 → x.2.2.length ≤ n) ∧ (∀ k, k < x.1 → x.2.1.getD k 0 = 0) ∧ A / BB ^ x.1 = V * val (x.2.1.drop x.1) + val x.2.2) (fun x => x.1) (lq, q0, r0) ⟨Nat.le_refl _, hql0, hq0, hr0, hr3, fun _ => hr2, fun k _ => hqz0 k, by dsimp only; rw [List.drop_eq_nil_of_le (by omega), hr1]; simp [val]⟩ ?_ ?_
  · obtain ⟨l, rfl⟩ : ∃ k, lq = k + 1 := ⟨lq - 1, by omega⟩
    exact ⟨⟨rfl, rfl, rfl, rfl, rfl, rfl, rfl, by simp [lk, oFr], trivial⟩, rfl, rfl⟩
  rintro ⟨j, q, rl⟩ ⟨hj, hql, hq, hrl, hrV, hrn, hqz, heq⟩
  dsimp only at hj hql hq hrl hrV hrn hqz heq ⊢
  cases j with
  | zero =>
    repeat' ((conv => whnf); first | refine ngo ?_ | refine VB.tt ?_ | refine VB.ff ?_ | refine VNew.keep ?_ | refine dgo ?_ | refine sgo ?_ | fail)
    conv => whnf
    refine ⟨(q, rl), ⟨hql, hq, hrl, hrV, ?_⟩, ⟨⟨rfl, rfl, rfl, trivial⟩, rfl, rfl⟩⟩
    simpa using heq
  | succ j =>
    have hrn := hrn (by omega)
    have hqj := hqz j (by omega)
    have ej : ((j : Nat) : Int).toNat = j := by omega
    have g1 : getInt (List.drop (((j : Nat) : Int).toNat * 1) (limbs (dg A))) = (((dg A).getD j 0 : Nat) : Int) := by rw [ej, Nat.mul_one, getInt_limbs]
    have haj := dg_getD A j
    have hajl := getD_lt (okL_dg A) j
    generalize (dg A).getD j 0 = aj at *
    obtain ⟨W, hW⟩ : ∃ W, W = aj + BB * val rl := ⟨_, rfl⟩
    have hst := over_step heq haj hW
    have hWV : W < V * BB := by
      have h1 : BB * (val rl + 1) ≤ BB * V := Nat.mul_le_mul_left _ hrV
      rw [Nat.mul_comm V BB]
      rw [Nat.mul_add] at h1
      omega
    have hWn : (dg W).length ≤ n + 1 := length_dg_lt (by
      rw [Nat.pow_succ]
      exact Nat.lt_of_lt_of_le hWV (Nat.mul_le_mul_right _ (Nat.le_of_lt hc.hVpow)))
    have hP : 0 < BB ^ (n - 1) := Nat.pow_pos (by decide)
    have hest := over_est (W := W) hc.hV (Nat.pos_of_ne_zero htop0) hP
    have hdB : W / V < BB := Nat.div_lt_of_lt_mul hWV
    have hlead : W / BB ^ (n - 1) < BB * BB := by
      refine Nat.div_lt_of_lt_mul (Nat.lt_of_lt_of_le hWV ?_)
      have h1 : V * BB ≤ BB ^ n * BB := Nat.mul_le_mul_right _ (Nat.le_of_lt hc.hVpow)
      have h2 : BB ^ n * BB = BB ^ (n - 1) * (BB * BB) := by
        conv => lhs; rw [show n = (n - 1) + 1 by omega]
        rw [Nat.pow_succ, Nat.mul_assoc]
      exact Nat.le_trans h1 (Nat.le_of_eq h2)
    have hwok : okL (aj :: rl) := okL_cons.2 ⟨hajl, hrl⟩
    have hwv : val (aj :: rl) = W := by rw [hW, val]
    repeat' ((conv => whnf); first | refine ngo ?_ | refine VB.tt ?_ | refine VB.ff ?_ | refine dgo ?_ | refine sgo ?_ | fail)
    conv => whnf
    rw [g1]
    refine VNew.keep ?_
    repeat' ((conv => whnf); first | refine ngo ?_ | refine VB.tt ?_ | refine VB.ff ?_ | refine dgo ?_ | refine sgo ?_ | fail)
    conv => whnf
    refine VNew.dat (cs' := limbs (aj :: rl)) rfl ?_ ?_
    · rw [Nat.mul_one, List.drop_zero, List.take_of_length_le (by simp [limbs]; omega)]
      rfl
    repeat' ((conv => whnf); first | refine ngo ?_ | refine VB.tt ?_ | refine VB.ff ?_ | refine VNew.keep ?_ | refine dgo ?_ | refine sgo ?_ | fail)
    conv => whnf
    rw [show AV.dsl (limbs (aj :: rl)) (1 + rl.length) = natL (aj :: rl) by simp [natL, Nat.add_comm]]
    have ht := rtrim_c hwok (by simp; omega)
    rw [hwv] at ht
    refine VCall.s (ht) ?_
    repeat' ((conv => whnf); first | refine ngo ?_ | refine VB.tt ?_ | refine VB.ff ?_ | refine VNew.keep ?_ | refine dgo ?_ | refine sgo ?_ | fail)
    conv => whnf
    refine VLoop.use (lead_loop (i := j) (H := [.cells 0 41 (limbs q), .gone]) hc hWV) ⟨⟨rfl, rfl, rfl, rfl, rfl, rfl, rfl, rfl, rfl, rfl, trivial⟩, rfl, rfl⟩ ?_
    rintro ⟨⟩ -
    generalize hle : W / BB ^ (n - 1) = le at *
    have g5 := tdiv_nat le top
    have hlt := Nat.div_le_self le top
    generalize le / top = x at *
    have hd0 : ∃ d0 : Nat, (if (999999999 : Int) < (x : Int) then (999999999 : Int) else (x : Int)) = (d0 : Int) ∧ d0 < BB ∧ W / V ≤ d0 := by
      by_cases h : (999999999 : Int) < (x : Int)
      · exact ⟨999999999, by rw [if_pos h]; rfl, by decide, by omega⟩
      · exact ⟨x, by rw [if_neg h], by omega, hest⟩
    obtain ⟨d0, hd1, hd2, hd3⟩ := hd0
    repeat' ((conv => whnf); first | refine ngo ?_ | refine VB.tt ?_ | refine VB.ff ?_ | refine VNew.keep ?_ | refine dgo ?_ | refine sgo ?_ | fail)
    conv => whnf
    rw [g5, hd1]
    repeat' ((conv => whnf); first | refine ngo ?_ | refine VB.tt ?_ | refine VB.ff ?_ | refine VNew.keep ?_ | refine dgo ?_ | refine sgo ?_ | fail)
    conv => whnf
    refine VLoop.use (down_loop (i := j) (H := [.cells 0 41 (limbs q), .gone]) (d0 := d0) hc (by omega) hd2 hd3) ⟨⟨rfl, rfl, rfl, rfl, rfl, rfl, rfl, rfl, rfl, trivial⟩, rfl, rfl⟩ ?_
    rintro - -
    have hml := Nat.mod_lt W hV0
    have hdm := Nat.div_add_mod W V
    have hle2 : V * (W / V) ≤ W := by omega
    have hsub : W - V * (W / V) = W % V := by omega
    generalize W / V = d at *
    have hdl : (dg d).length ≤ 1 := length_dg_lt (by simpa using hdB)
    have hVdl : (dg (V * d)).length ≤ n + 1 := by
      have := dg_length_mono hle2
      omega
    repeat' ((conv => whnf); first | refine ngo ?_ | refine VB.tt ?_ | refine VB.ff ?_ | refine VNew.keep ?_ | refine dgo ?_ | refine sgo ?_ | fail)
    conv => whnf
    refine VCall.s (rsmall_c hdB) ?_
    repeat' ((conv => whnf); first | refine ngo ?_ | refine VB.tt ?_ | refine VB.ff ?_ | refine VNew.keep ?_ | refine dgo ?_ | refine sgo ?_ | fail)
    conv => whnf
    refine VCall.i (rtimes_n (by omega) (by omega)) ?_
    repeat' ((conv => whnf); first | refine ngo ?_ | refine VB.tt ?_ | refine VB.ff ?_ | refine VNew.keep ?_ | refine dgo ?_ | refine sgo ?_ | fail)
    conv => whnf
    have hmo := rminus_own (canon_dg W) (canon_dg (V * d)) (by omega) (by rwa [val_dg, val_dg])
    rw [val_dg, val_dg, hsub] at hmo
    have hRl : (dg (W % V)).length ≤ n := by rw [hnn]; exact dg_length_mono (Nat.le_of_lt hml)
    have hqd : val ((q.set j d).drop j) = d + BB * val (q.drop (j + 1)) := by
      rw [List.drop_set, if_neg (by omega), Nat.sub_self, List.drop_eq_getElem_cons (by omega), List.set_cons_zero, val]
    have hqz' : ∀ k, k < j → (q.set j d).getD k 0 = 0 := fun k hk => by rw [getD_set_ne' (by omega)]; exact hqz k (by omega)
    refine VCall.own hmo ⟨low_natL 0 _, low_natL 0 _, trivial⟩ fun v0 H0 hz => ?_
    obtain ⟨l, hl1, hl2, rfl, rfl⟩ := hz
    rw [← hl2] at hml hst hRl ⊢
    rw [← hqd] at hst
    refine ⟨fun o ho => ?_, ?_⟩
    · cases l with
      | nil => simp [accH] at ho
      | cons x l => rw [List.mem_singleton.1 ho]; exact low_limbs 0 _
    cases l with
    | nil =>
      refine ⟨.nsl, .same trivial, ?_⟩
      repeat' ((conv => whnf); first | refine ngo ?_ | refine VB.tt ?_ | refine VB.ff ?_ | refine VNew.keep ?_ | refine dgo ?_ | refine sgo ?_ | fail)
      conv => whnf
      cases j with
      | zero =>
        refine ⟨(0, q.set (0) d, []), ⟨by dsimp only; omega, by dsimp only; rw [List.length_set]; exact hql, okL_set hq _ hdB, hl1, hml, fun h => by simp, hqz', hst⟩, by dsimp only; omega, [], by simp, by simp, ⟨⟨_, rfl, .cells rfl (FzL.same ?_ (low_limbs _ (q.set (0) d)))⟩, trivial⟩, ⟨⟨_, rfl, .same rfl (low_natL _ _)⟩, ⟨_, rfl, .same rfl (low_natL _ _)⟩, ⟨_, rfl, .same rfl (show 0 < 1 by decide)⟩, ⟨_, rfl, .same rfl trivial⟩, ⟨_, rfl, .same rfl (low_limbs _ [f])⟩, ⟨_, rfl, .same rfl trivial⟩, ⟨_, rfl, .same rfl trivial⟩, ⟨_, rfl, .same (by simp) trivial⟩, trivial⟩, rfl, by simp⟩
        rw [Int.toNat_natCast, Nat.mul_one, Nat.zero_add, splice_limbs (by omega)]
      | succ j =>
        refine ⟨(j + 1, q.set (j + 1) d, []), ⟨by dsimp only; omega, by dsimp only; rw [List.length_set]; exact hql, okL_set hq _ hdB, hl1, hml, fun h => by simp, hqz', hst⟩, by dsimp only; omega, [], by simp, by simp, ⟨⟨_, rfl, .cells rfl (FzL.same ?_ (low_limbs _ (q.set (j + 1) d)))⟩, trivial⟩, ⟨⟨_, rfl, .same rfl (low_natL _ _)⟩, ⟨_, rfl, .same rfl (low_natL _ _)⟩, ⟨_, rfl, .same rfl (show 0 < 1 by decide)⟩, ⟨_, rfl, .nsl⟩, ⟨_, rfl, .same rfl (low_limbs _ [f])⟩, ⟨_, rfl, .same rfl trivial⟩, ⟨_, rfl, .same rfl trivial⟩, ⟨_, rfl, .same (by simp) trivial⟩, trivial⟩, rfl, by simp⟩
        rw [Int.toNat_natCast, Nat.mul_one, Nat.zero_add, splice_limbs (by omega)]
    | cons x l =>
      refine ⟨_, .osl, ?_⟩
      repeat' ((conv => whnf); first | refine ngo ?_ | refine VB.tt ?_ | refine VB.ff ?_ | refine VNew.keep ?_ | refine dgo ?_ | refine sgo ?_ | fail)
      conv => whnf
      cases j with
      | zero =>
        refine ⟨(0, q.set (0) d, x :: l), ⟨by dsimp only; omega, by dsimp only; rw [List.length_set]; exact hql, okL_set hq _ hdB, hl1, hml, fun h => absurd h (by simp), hqz', hst⟩, by dsimp only; omega, [2], by simp, by simp, ⟨⟨_, rfl, .cells rfl (FzL.same ?_ (low_limbs _ (q.set (0) d)))⟩, ⟨_, rfl, .cells rfl (FzL.same rfl (low_limbs _ (x :: l)))⟩, trivial⟩, ⟨⟨_, rfl, .same rfl (low_natL _ _)⟩, ⟨_, rfl, .same rfl (low_natL _ _)⟩, ⟨_, rfl, .same rfl (show 0 < 1 by decide)⟩, ⟨_, rfl, .kosl (j := 0) rfl rfl rfl rfl⟩, ⟨_, rfl, .same rfl (low_limbs _ [f])⟩, ⟨_, rfl, .same rfl trivial⟩, ⟨_, rfl, .same rfl trivial⟩, ⟨_, rfl, .same (by simp) trivial⟩, trivial⟩, rfl, by simp⟩
        rw [Int.toNat_natCast, Nat.mul_one, Nat.zero_add, splice_limbs (by omega)]
      | succ j =>
        refine ⟨(j + 1, q.set (j + 1) d, dg (val (x :: l))), ⟨by dsimp only; omega, by dsimp only; rw [List.length_set]; exact hql, okL_set hq _ hdB, okL_dg _, by dsimp only; rw [val_dg]; exact hml, fun _ => hRl, hqz', by dsimp only; rw [val_dg]; exact hst⟩, by dsimp only; omega, [], by simp, by simp, ⟨⟨_, rfl, .cells rfl (FzL.same ?_ (low_limbs _ (q.set (j + 1) d)))⟩, trivial⟩, ⟨⟨_, rfl, .same rfl (low_natL _ _)⟩, ⟨_, rfl, .same rfl (low_natL _ _)⟩, ⟨_, rfl, .same rfl (show 0 < 1 by decide)⟩, ⟨_, rfl, Fz.nat (by simp) (by simp) rfl (by rw [Nat.mul_one, limbs_take, take_dg hl1]) rfl⟩, ⟨_, rfl, .same rfl (low_limbs _ [f])⟩, ⟨_, rfl, .same rfl trivial⟩, ⟨_, rfl, .same rfl trivial⟩, ⟨_, rfl, .same (by simp) trivial⟩, trivial⟩, rfl, by simp⟩
        rw [Int.toNat_natCast, Nat.mul_one, Nat.zero_add, splice_limbs (by omega)]
end Go.Proofs.Ytoijfbdjlagooaa


/- Contracts: the reference's quotients, whole. -/
namespace Go.Proofs.Ytoijfbdjlagooaa
open Go Go.RowKit
set_option linter.unusedVariables false
set_option linter.unusedSimpArgs false
set_option maxRecDepth 100000

/-- The rest divided where it stands. -/
theorem rest_loop {f lq ver : Nat} {q l : List Nat} (hl : okL l) (hf1 : 1 ≤ f) (hf2 : f < BB) (hll : (dg (val l)).length < 100000000) :
    VLoop EE Try.f104.ntmps none (nthLoop Try.f104 3) (fun e s => e = .exit 6 ∧ ∃ y : List Nat, (y.length = l.length ∧ okL y ∧ val (y.take (dg (val l)).length) = val l / f) ∧
      Meets ⟨[(4, .osl 0 0 0 lq 1), (5, .osl 1 ver 0 (dg (val l)).length 1)], [.cells 0 41 (limbs q), .cells ver 41 (limbs y)], []⟩ s)
      ⟨[(4, .osl 0 0 0 lq 1), (5, .osl 1 ver 0 (dg (val l)).length 1), (6, .dsl (limbs [f]) 1), (13, .int .u64 (0 : Nat)), (14, .int .i64 (((dg (val l)).length : Int) - 1))], [.cells 0 41 (limbs q), .cells ver 41 (limbs l)], []⟩ := by
  have hBB : BB = 1000000000 := rfl
  have hk0 : (dg (val l)).length ≤ l.length := dg_length_le hl
  have htk := take_dg hl
  have hvd := val_dg (val l)
  rw [← htk] at hvd
  generalize (dg (val l)).length = k0 at *
  have gf : getInt (List.drop ((0 : Int).toNat * 1) (limbs [f])) = (f : Int) := rfl
  refine VLoop.ix true (fun x : Nat × List Nat × Nat => ⟨[(4, .osl 0 0 0 lq 1), (5, .osl 1 ver 0 k0 1), (6, .dsl (limbs [f]) 1), (13, .int .u64 (x.2.2 : Nat)), (14, .int .i64 ((x.1 : Int) - 1))], [.cells 0 41 (limbs q), .cells ver 41 (limbs x.2.1)], []⟩)
    (fun x => x.1 ≤ k0 ∧ x.2.1.length = l.length ∧ okL x.2.1 ∧ x.2.2 < f ∧ (∀ k, k < x.1 → x.2.1.getD k 0 = l.getD k 0) ∧ val ((x.2.1.take k0).drop x.1) * f + x.2.2 = val ((l.take k0).drop x.1)) (fun x => x.1) (k0, l, 0)
    ⟨Nat.le_refl _, rfl, hl, hf1, fun _ _ => rfl, by dsimp only; rw [List.drop_eq_nil_of_le (by simp; omega)]; simp [val]⟩ ⟨⟨rfl, rfl, rfl, rfl, rfl, trivial⟩, rfl, rfl⟩ ?_
  rintro ⟨i, m, r⟩ ⟨hi, hml, hok, hr, hz, hv⟩
  dsimp only at hi hml hok hr hz hv ⊢
  have hlk : (m.take k0).length = k0 := by rw [List.length_take]; omega
  repeat' ((conv => whnf); first | refine ngo ?_ | refine VB.tt ?_ | refine VB.ff ?_ | refine VNew.keep ?_ | refine dgo ?_ | refine sgo ?_ | fail)
  conv => whnf
  refine VB.dec (fun h => ?_) (fun h => ?_)
  · obtain ⟨i, rfl⟩ : ∃ k, i = k + 1 := ⟨i - 1, by omega⟩
    have ei : (((i + 1 : Nat) : Int) - 1).toNat = i := by omega
    have hx := getD_lt hok i
    have hxl := hz i (by omega)
    have g1 : getInt (List.drop (0 + (((i + 1 : Nat) : Int) - 1).toNat * 1) (limbs m)) = ((m.getD i 0 : Nat) : Int) := by rw [ei, Nat.mul_one, Nat.zero_add, getInt_limbs]
    have hd1 : val ((l.take k0).drop i) = l.getD i 0 + BB * val ((l.take k0).drop (i + 1)) := by
      rw [List.drop_eq_getElem_cons (by rw [List.length_take]; omega), val]
      simp [List.getD_eq_getElem?_getD, show i < l.length by omega]
    have hd2 : ∀ c, val (((m.set i c).take k0).drop i) = c + BB * val ((m.take k0).drop (i + 1)) := fun c => by
      have e1 : (m.set i c).take k0 = (m.take k0).set i c := by rw [List.take_set]
      rw [e1, List.drop_set, if_neg (by omega), Nat.sub_self, List.drop_eq_getElem_cons (by omega), List.set_cons_zero, val]
    rw [← hxl] at hd1
    generalize m.getD i 0 = x at *
    obtain ⟨n, hn⟩ : ∃ n, n = r * BB + x := ⟨_, rfl⟩
    have g0 : (r : Int) * 1000000000 + (x : Int) = (n : Int) := by rw [hn]; simp
    have hnd : n < f * BB := by
      rw [hn]
      have := Nat.mul_le_mul_right BB (show r + 1 ≤ f from hr)
      rw [Nat.add_mul] at this
      omega
    have hnb : n < BB * BB := Nat.lt_of_lt_of_le hnd (Nat.mul_le_mul_right _ (Nat.le_of_lt hf2))
    have hBB2 : BB * BB = 1000000000000000000 := rfl
    have hq : n / f < BB := Nat.div_lt_of_lt_mul hnd
    have hm := Nat.mod_lt n hf1
    have hmd := Nat.mod_add_div n f
    have g5 := tdiv_nat n f
    have g6 := tmod_nat n f
    generalize n / f = q' at *
    generalize n % f = r' at *
    repeat' ((conv => whnf); first | refine ngo ?_ | refine VB.tt ?_ | refine VB.ff ?_ | refine VNew.keep ?_ | refine dgo ?_ | refine sgo ?_ | fail)
    conv => whnf
    rw [g1]
    repeat' ((conv => whnf); first | refine ngo ?_ | refine VB.tt ?_ | refine VB.ff ?_ | refine VNew.keep ?_ | refine dgo ?_ | refine sgo ?_ | fail)
    conv => whnf
    rw [g0]
    repeat' ((conv => whnf); first | refine ngo ?_ | refine VB.tt ?_ | refine VB.ff ?_ | refine VNew.keep ?_ | refine dgo ?_ | refine sgo ?_ | fail)
    conv => whnf
    rw [gf]
    repeat' ((conv => whnf); first | refine ngo ?_ | refine VB.tt ?_ | refine VB.ff ?_ | refine VNew.keep ?_ | refine dgo ?_ | refine sgo ?_ | fail)
    conv => whnf
    rw [g5]
    repeat' ((conv => whnf); first | refine ngo ?_ | refine VB.tt ?_ | refine VB.ff ?_ | refine VNew.keep ?_ | refine dgo ?_ | refine sgo ?_ | fail)
    conv => whnf
    rw [gf]
    repeat' ((conv => whnf); first | refine ngo ?_ | refine VB.tt ?_ | refine VB.ff ?_ | refine VNew.keep ?_ | refine dgo ?_ | refine sgo ?_ | fail)
    conv => whnf
    rw [g6]
    refine ⟨(i, m.set i q', r'), ⟨by dsimp only; omega, by dsimp only; rw [List.length_set]; exact hml, okL_set hok _ hq, hm, ?_, ?_⟩, by dsimp only; omega, ⟨⟨rfl, rfl, rfl, rfl, by simp [lk], trivial⟩, ?_, rfl⟩⟩
    · intro k hk
      dsimp only at hk ⊢
      rw [getD_set_ne' (by omega)]
      exact hz k (by omega)
    · dsimp only
      rw [hd2, hd1, ← hv, Nat.add_mul, Nat.mul_add, Nat.mul_comm q' f, Nat.mul_assoc BB, Nat.mul_comm BB r]
      omega
    · show [_, AObj.cells _ _ (splice _ _ _)] = _
      rw [ei, Nat.zero_add, Nat.mul_one, splice_limbs (by omega)]
  · have : i = 0 := by omega
    subst this
    rw [List.drop_zero, List.drop_zero, hvd] at hv
    repeat' ((conv => whnf); first | refine ngo ?_ | refine VB.tt ?_ | refine VB.ff ?_ | refine VNew.keep ?_ | refine dgo ?_ | refine sgo ?_ | fail)
    conv => whnf
    refine ⟨m, ⟨hml, hok, ?_⟩, ⟨⟨rfl, rfl, trivial⟩, rfl, rfl⟩⟩
    rw [← hv, Nat.mul_comm, Nat.mul_add_div hf1, Nat.div_eq_of_lt hr, Nat.add_zero]

theorem rest_nil {f lq : Nat} {q : List Nat} :
    VLoop EE Try.f104.ntmps none (nthLoop Try.f104 3) (fun e s => e = .exit 6 ∧ ∃ y : Unit, True ∧ Meets ⟨[(4, .osl 0 0 0 lq 1), (5, .nsl)], [.cells 0 41 (limbs q)], []⟩ s)
      ⟨[(4, .osl 0 0 0 lq 1), (5, .nsl), (14, .int .i64 (-1))], [.cells 0 41 (limbs q)], []⟩ := by
  refine VLoop.ix true (fun x : Unit => ⟨[(4, .osl 0 0 0 lq 1), (5, .nsl), (14, .int .i64 (-1))], [.cells 0 41 (limbs q)], []⟩) (fun x => True) (fun x => 0) () trivial ⟨⟨rfl, rfl, rfl, trivial⟩, rfl, rfl⟩ ?_
  rintro x -
  repeat' ((conv => whnf); first | refine ngo ?_ | refine VB.tt ?_ | refine VB.ff ?_ | refine VNew.keep ?_ | refine dgo ?_ | refine sgo ?_ | fail)
  conv => whnf
  exact ⟨(), trivial, ⟨⟨rfl, rfl, trivial⟩, rfl, rfl⟩⟩

theorem dg_one {f : Nat} (h1 : 1 ≤ f) (h2 : f < BB) : natv f = .dsl (limbs [f]) 1 := by
  rw [natv, dg_pos (by omega), Nat.mod_eq_of_lt h2, Nat.div_eq_of_lt h2, dg_zero]
  rfl

set_option maxHeartbeats 2000000 in
theorem over_c {a b : List Nat} (ha : canon a) (hb : canon b) (hb0 : b ≠ []) (la : a.length < 8000000) (lb : b.length < 8000000) :
    VCall EE 104 [natL a, natL b] [] fun v H => Fz H 0 [] v (.tup [natv (val a / val b), natv (val a % val b)]) := by
  have hbl : 0 < b.length := List.length_pos_iff.2 hb0
  refine VCall.of_body true Try.func104 rfl (by decide) rfl ?_
  repeat' ((conv => whnf); first | refine ngo ?_ | refine VB.tt ?_ | refine VB.ff ?_ | refine VNew.keep ?_ | refine dgo ?_ | refine sgo ?_ | fail)
  conv => whnf
  refine VCall.s (rorder_c ha hb (by omega) (by omega)) ?_
  repeat' ((conv => whnf); first | refine ngo ?_ | refine VB.tt ?_ | refine VB.ff ?_ | refine VNew.keep ?_ | refine dgo ?_ | refine sgo ?_ | fail)
  conv => whnf
  refine VB.dec (fun h => ?_) (fun h => ?_)
  · have hlt : val a < val b := by
      unfold cmpN at h
      split at h
      · assumption
      · split at h <;> simp at h
    repeat' ((conv => whnf); first | refine ngo ?_ | refine VB.tt ?_ | refine VB.ff ?_ | refine VNew.keep ?_ | refine dgo ?_ | refine sgo ?_ | fail)
    conv => whnf
    rw [Nat.div_eq_of_lt hlt, Nat.mod_eq_of_lt hlt, ← natv_of ha]
    repeat' (first | exact fz_nil0 | exact Fz.nsl | exact Fz.same rfl (by repeat' (first | exact trivial | exact low_natL 0 _ | exact low_limbs 0 _ | refine And.intro ?_ ?_ | fail)) | refine Fz.tup ?_ | refine FzL.cons ?_ ?_ | exact FzL.nil | fail)
  · have hge : val b ≤ val a := by
      unfold cmpN at h
      split at h
      · exact absurd (show (-1 : Int) < 0 by decide) h
      · omega
    have hb1 : 0 < val b := Nat.lt_of_lt_of_le (Nat.pow_pos (by decide)) (hb.ge hb0)
    have hBB : BB = 1000000000 := rfl
    have eb : ((b.length : Int) - 1).toNat = b.length - 1 := by omega
    have hbt := getD_lt hb.1 (b.length - 1)
    have hbt0 : b.getD (b.length - 1) 0 ≠ 0 := hb.2 _ (by rw [List.getLast?_eq_getElem?, List.getD_eq_getElem?_getD, List.getElem?_eq_getElem (by omega)]; rfl)
    have g1 : getInt (List.drop (((b.length : Int) - 1).toNat * 1) (limbs b)) = ((b.getD (b.length - 1) 0 : Nat) : Int) := by rw [eb, Nat.mul_one, getInt_limbs]
    generalize b.getD (b.length - 1) 0 = bt at *
    have hf1 : 1 ≤ BB / (bt + 1) := (Nat.le_div_iff_mul_le (by omega)).2 (by omega)
    have hf2 : BB / (bt + 1) < BB := Nat.div_lt_self (by decide) (by omega)
    have g2 : (1000000000 : Int).tdiv ((bt : Int) + 1) = ((BB / (bt + 1) : Nat) : Int) := rfl
    generalize BB / (bt + 1) = f at *
    repeat' ((conv => whnf); first | refine ngo ?_ | refine VB.tt ?_ | refine VB.ff ?_ | refine VNew.keep ?_ | refine dgo ?_ | refine sgo ?_ | fail)
    conv => whnf
    rw [g1]
    repeat' ((conv => whnf); first | refine ngo ?_ | refine VB.tt ?_ | refine VB.ff ?_ | refine VNew.keep ?_ | refine dgo ?_ | refine sgo ?_ | fail)
    conv => whnf
    rw [g2]
    repeat' ((conv => whnf); first | refine ngo ?_ | refine VB.tt ?_ | refine VB.ff ?_ | refine VNew.keep ?_ | refine dgo ?_ | refine sgo ?_ | fail)
    conv => whnf
    refine VCall.s (rsmall_c hf2) ?_
    rw [dg_one hf1 hf2]
    have hfv : val [f] = f := by simp [val]
    have hfo : okL [f] := by intro x hx; rw [List.mem_singleton.1 hx]; exact hf2
    repeat' ((conv => whnf); first | refine ngo ?_ | refine VB.tt ?_ | refine VB.ff ?_ | refine VNew.keep ?_ | refine dgo ?_ | refine sgo ?_ | fail)
    conv => whnf
    have ht1 := rtimes_c ha.1 hfo (by omega) (by simp)
    rw [hfv] at ht1
    have ht2 := rtimes_c hb.1 hfo (by omega) (by simp)
    rw [hfv] at ht2
    refine VCall.i (ht1) ?_
    repeat' ((conv => whnf); first | refine ngo ?_ | refine VB.tt ?_ | refine VB.ff ?_ | refine VNew.keep ?_ | refine dgo ?_ | refine sgo ?_ | fail)
    conv => whnf
    refine VCall.i (ht2) ?_
    obtain ⟨A, hA⟩ : ∃ A, A = val a * f := ⟨_, rfl⟩
    obtain ⟨V, hV⟩ : ∃ V, V = val b * f := ⟨_, rfl⟩
    rw [← hA, ← hV]
    obtain ⟨n, hnn⟩ : ∃ n, n = (dg V).length := ⟨_, rfl⟩
    have hAl : (dg A).length ≤ a.length + 1 := by
      refine length_dg_lt ?_
      rw [hA, Nat.pow_succ]
      exact Nat.mul_lt_mul'' (val_lt ha.1) hf2
    have hVb : val b ≤ V := by rw [hV]; exact Nat.le_mul_of_pos_right _ hf1
    have hVA : V ≤ A := by rw [hV, hA]; exact Nat.mul_le_mul_right _ hge
    have hnb : b.length ≤ n := by have := dg_length_mono hVb; rwa [dg_val hb, ← hnn] at this
    have hnA : n ≤ (dg A).length := by rw [hnn]; exact dg_length_mono hVA
    have hVl : n ≤ b.length + 1 := by
      rw [hnn]
      refine length_dg_lt ?_
      rw [hV, Nat.pow_succ]
      exact Nat.mul_lt_mul'' (val_lt hb.1) hf2
    have hVc := canon_dg V
    have hVv := val_dg V
    have en1 : (((dg V).length : Int) - 1).toNat = n - 1 := by omega
    have hv1 := getD_lt hVc.1 (n - 1)
    have hv10 : (dg V).getD (n - 1) 0 ≠ 0 := hVc.2 _ (by rw [List.getLast?_eq_getElem?, List.getD_eq_getElem?_getD, ← hnn, List.getElem?_eq_getElem (by omega)]; rfl)
    have g3 : getInt (List.drop ((((dg V).length : Int) - 1).toNat * 1) (limbs (dg V))) = (((dg V).getD (n - 1) 0 : Nat) : Int) := by rw [en1, Nat.mul_one, getInt_limbs]
    have htp : (dg V).getD (n - 1) 0 * BB ^ (n - 1) ≤ V := by
      have h1 := val_take_succ (l := dg V) (i := n - 1) (by omega)
      rw [show n - 1 + 1 = n by omega, List.take_of_length_le (by omega), hVv, Nat.mul_comm (BB ^ (n - 1))] at h1
      omega
    have htp2 : BB ^ (n - 1) ≤ V := Nat.le_trans (Nat.le_mul_of_pos_left _ (Nat.pos_of_ne_zero hv10)) htp
    generalize (dg V).getD (n - 1) 0 = top at *
    repeat' ((conv => whnf); first | refine ngo ?_ | refine VB.tt ?_ | refine VB.ff ?_ | refine VNew.keep ?_ | refine dgo ?_ | refine sgo ?_ | fail)
    conv => whnf
    rw [g3]
    repeat' ((conv => whnf); first | refine ngo ?_ | refine VB.tt ?_ | refine VB.ff ?_ | refine VNew.keep ?_ | refine dgo ?_ | refine sgo ?_ | fail)
    conv => whnf
    obtain ⟨lq, hlq⟩ : ∃ lq, lq + n = (dg A).length + 1 := ⟨(dg A).length + 1 - n, by omega⟩
    have hVpow : V < BB ^ n := by rw [← hVv, hnn]; exact val_lt hVc.1
    have hc : OvC f n lq A V top := ⟨hf1, hf2, by omega, hnn, by omega, by omega, hlq, hv1, hv10, htp, by omega, hVpow⟩
    refine VDraw.xt true [0, 1, 2, 3, 4, 6, 7, 8, 9, 10, 11, 12, 13] 4 ⟨[(0, natv A), (1, natv V), (4, .osl 0 0 0 lq 1), (5, natL ((dg A).drop lq)), (6, .dsl (limbs [f]) 1), (7, .int .u64 top), (8, .int .i64 (dg V).length)], [.cells 0 41 (limbs (List.replicate lq 0))], []⟩ (fun b hb => nomatch hb) mixed (by kernel_rfl) (by kernel_rfl) (by kernel_rfl) (by kernel_rfl) ?_ ?_
    · have er0 : List.take (((dg A).length - ((((dg A).length : Int) - ((dg V).length : Int) + 1).toNat)) * 1) (List.drop ((((dg A).length : Int) - ((dg V).length : Int) + 1).toNat * 1) (limbs (dg A))) = limbs ((dg A).drop lq) := by
        rw [show (((dg A).length : Int) - ((dg V).length : Int) + 1).toNat = lq by omega, Nat.mul_one, Nat.mul_one, limbs_drop, limbs_take, List.take_of_length_le (by simp)]
      have er1 : (dg A).length - (((dg A).length : Int) - ((dg V).length : Int) + 1).toNat = ((dg A).drop lq).length := by
        rw [List.length_drop]; omega
      have erl : ((dg A).drop lq).length = n - 1 := by rw [List.length_drop]; omega
      have eq0 : reps (((dg A).length : Int) - ((dg V).length : Int) + 1).toNat [AV.int .u32 0] = limbs (List.replicate lq 0) := by
        rw [show (((dg A).length : Int) - ((dg V).length : Int) + 1).toNat = lq by omega]; exact limbs_zeros _
      repeat' ((conv => whnf); first | refine ngo ?_ | refine VB.tt ?_ | refine VB.ff ?_ | refine VNew.keep ?_ | refine dgo ?_ | refine sgo ?_ | fail)
      conv => whnf
      refine vall.s2 (i := 5) (i' := 14) (by kernel_rfl) (by rfl) (by rfl) ?_ ?_
      · repeat' ((conv => whnf); first | refine ngo ?_ | refine VB.tt ?_ | refine VB.ff ?_ | refine VNew.keep ?_ | refine dgo ?_ | refine sgo ?_ | fail)
        conv => whnf
        refine vall.s1 (i := 14) (by kernel_rfl) (by rfl) ?_
        repeat' ((conv => whnf); first | refine ngo ?_ | refine VB.tt ?_ | refine VB.ff ?_ | refine VNew.keep ?_ | refine dgo ?_ | refine sgo ?_ | fail)
        conv => whnf
        rw [er0, er1]
        generalize (dg A).drop lq = r0 at *
        cases r0 with
        | nil =>
          repeat' ((conv => whnf); first | refine ngo ?_ | refine VB.tt ?_ | refine VB.ff ?_ | refine VNew.keep ?_ | refine dgo ?_ | refine sgo ?_ | fail)
          conv => whnf
          refine vall.s1 (i := 15) (by kernel_rfl) (by rfl) ?_
          repeat' ((conv => whnf); first | refine ngo ?_ | refine VB.tt ?_ | refine VB.ff ?_ | refine VNew.keep ?_ | refine dgo ?_ | refine sgo ?_ | fail)
          conv => whnf
          refine vall.s1 (i := 16) (by kernel_rfl) (by rfl) ?_
          repeat' ((conv => whnf); first | refine ngo ?_ | refine VB.tt ?_ | refine VB.ff ?_ | refine VNew.keep ?_ | refine dgo ?_ | refine sgo ?_ | fail)
          conv => whnf
          refine ⟨[0], by simp, by simp, ⟨⟨_, rfl, .cells rfl (FzL.same eq0 (low_limbs _ _))⟩, trivial⟩, ⟨⟨_, rfl, .same rfl (low_natL _ _)⟩, ⟨_, rfl, .same rfl (low_natL _ _)⟩, ⟨_, rfl, .kosl (j := 0) rfl rfl rfl (by omega)⟩, ⟨_, rfl, .nsl⟩, ⟨_, rfl, .same rfl (low_limbs _ [f])⟩, ⟨_, rfl, .same rfl trivial⟩, ⟨_, rfl, .same rfl trivial⟩, trivial⟩, rfl, by simp⟩
        | cons x r0 =>
          repeat' ((conv => whnf); first | refine ngo ?_ | refine VB.tt ?_ | refine VB.ff ?_ | refine VNew.keep ?_ | refine dgo ?_ | refine sgo ?_ | fail)
          conv => whnf
          refine vall.s1 (i := 15) (by kernel_rfl) (by rfl) ?_
          repeat' ((conv => whnf); first | refine ngo ?_ | refine VB.tt ?_ | refine VB.ff ?_ | refine VNew.keep ?_ | refine dgo ?_ | refine sgo ?_ | fail)
          conv => whnf
          refine vall.s1 (i := 16) (by kernel_rfl) (by rfl) ?_
          repeat' ((conv => whnf); first | refine ngo ?_ | refine VB.tt ?_ | refine VB.ff ?_ | refine VNew.keep ?_ | refine dgo ?_ | refine sgo ?_ | fail)
          conv => whnf
          refine ⟨[0], by simp, by simp, ⟨⟨_, rfl, .cells rfl (FzL.same eq0 (low_limbs _ _))⟩, trivial⟩, ⟨⟨_, rfl, .same rfl (low_natL _ _)⟩, ⟨_, rfl, .same rfl (low_natL _ _)⟩, ⟨_, rfl, .kosl (j := 0) rfl rfl rfl (by omega)⟩, ⟨_, rfl, Fz.nat (Nat.zero_le _) (by simp) rfl (by rw [Nat.mul_one]; exact List.take_of_length_le (by simp [limbs])) rfl⟩, ⟨_, rfl, .same rfl (low_limbs _ [f])⟩, ⟨_, rfl, .same rfl trivial⟩, ⟨_, rfl, .same rfl trivial⟩, trivial⟩, rfl, by simp⟩
      · repeat' ((conv => whnf); first | refine ngo ?_ | refine VB.tt ?_ | refine VB.ff ?_ | refine VNew.keep ?_ | refine dgo ?_ | refine sgo ?_ | fail)
        conv => whnf
        rw [er0, er1]
        generalize (dg A).drop lq = r0 at *
        cases r0 with
        | nil =>
          repeat' ((conv => whnf); first | refine ngo ?_ | refine VB.tt ?_ | refine VB.ff ?_ | refine VNew.keep ?_ | refine dgo ?_ | refine sgo ?_ | fail)
          conv => whnf
          refine vall.s1 (i := 5) (by kernel_rfl) (by rfl) ?_
          repeat' ((conv => whnf); first | refine ngo ?_ | refine VB.tt ?_ | refine VB.ff ?_ | refine VNew.keep ?_ | refine dgo ?_ | refine sgo ?_ | fail)
          conv => whnf
          refine vall.s1 (i := 15) (by kernel_rfl) (by rfl) ?_
          repeat' ((conv => whnf); first | refine ngo ?_ | refine VB.tt ?_ | refine VB.ff ?_ | refine VNew.keep ?_ | refine dgo ?_ | refine sgo ?_ | fail)
          conv => whnf
          refine vall.s1 (i := 16) (by kernel_rfl) (by rfl) ?_
          repeat' ((conv => whnf); first | refine ngo ?_ | refine VB.tt ?_ | refine VB.ff ?_ | refine VNew.keep ?_ | refine dgo ?_ | refine sgo ?_ | fail)
          conv => whnf
          refine ⟨[0], by simp, by simp, ⟨⟨_, rfl, .cells rfl (FzL.same eq0 (low_limbs _ _))⟩, trivial⟩, ⟨⟨_, rfl, .same rfl (low_natL _ _)⟩, ⟨_, rfl, .same rfl (low_natL _ _)⟩, ⟨_, rfl, .kosl (j := 0) rfl rfl rfl (by omega)⟩, ⟨_, rfl, .nsl⟩, ⟨_, rfl, .same rfl (low_limbs _ [f])⟩, ⟨_, rfl, .same rfl trivial⟩, ⟨_, rfl, .same rfl trivial⟩, trivial⟩, rfl, by simp⟩
        | cons x r0 =>
          repeat' ((conv => whnf); first | refine ngo ?_ | refine VB.tt ?_ | refine VB.ff ?_ | refine VNew.keep ?_ | refine dgo ?_ | refine sgo ?_ | fail)
          conv => whnf
          refine vall.s1 (i := 5) (by kernel_rfl) (by rfl) ?_
          repeat' ((conv => whnf); first | refine ngo ?_ | refine VB.tt ?_ | refine VB.ff ?_ | refine VNew.keep ?_ | refine dgo ?_ | refine sgo ?_ | fail)
          conv => whnf
          refine vall.s1 (i := 15) (by kernel_rfl) (by rfl) ?_
          repeat' ((conv => whnf); first | refine ngo ?_ | refine VB.tt ?_ | refine VB.ff ?_ | refine VNew.keep ?_ | refine dgo ?_ | refine sgo ?_ | fail)
          conv => whnf
          refine vall.s1 (i := 16) (by kernel_rfl) (by rfl) ?_
          repeat' ((conv => whnf); first | refine ngo ?_ | refine VB.tt ?_ | refine VB.ff ?_ | refine VNew.keep ?_ | refine dgo ?_ | refine sgo ?_ | fail)
          conv => whnf
          refine ⟨[1], by simp, by simp, ⟨⟨_, rfl, .cells rfl (FzL.same eq0 (low_limbs _ _))⟩, trivial⟩, ⟨⟨_, rfl, .same rfl (low_natL _ _)⟩, ⟨_, rfl, .same rfl (low_natL _ _)⟩, ⟨_, rfl, .kosl (j := 0) rfl rfl rfl (by omega)⟩, ⟨_, rfl, Fz.nat (Nat.zero_le _) (by simp) rfl (by rw [Nat.mul_one]; exact List.take_of_length_le (by simp [limbs])) rfl⟩, ⟨_, rfl, .same rfl (low_limbs _ [f])⟩, ⟨_, rfl, .same rfl trivial⟩, ⟨_, rfl, .same rfl trivial⟩, trivial⟩, rfl, by simp⟩
    · repeat' ((conv => whnf); first | refine ngo ?_ | refine VB.tt ?_ | refine VB.ff ?_ | refine VNew.keep ?_ | refine dgo ?_ | refine sgo ?_ | fail)
      conv => whnf
      have hro := okL_dg A
      refine VLoop.use (over_loop (q0 := List.replicate lq 0) (r0 := (dg A).drop lq) hc (by omega) (by simp) (okL_zeros _) (fun k => by rw [List.getD_eq_getElem?_getD, List.getElem?_replicate]; split <;> rfl) (hro.drop _) (by rw [val_drop hro, val_dg]) (by rw [List.length_drop]; omega) ?_) ⟨⟨rfl, rfl, rfl, rfl, rfl, rfl, by rw [hnn]; rfl, ?_, trivial⟩, rfl, rfl⟩ ?_
      · refine Nat.lt_of_lt_of_le (val_lt (hro.drop _)) (Nat.le_trans ?_ htp2)
        rw [List.length_drop]
        exact Nat.pow_le_pow_right (by decide) (by omega)
      · simp [lk]; omega
      rintro ⟨q, rl⟩ ⟨hql, hq, hrl, hrV, hAe⟩
      dsimp only at hql hq hrl hrV hAe ⊢
      have hquo : val q = val a / val b := by
        have h1 : A / V = val q := by rw [hAe, Nat.mul_add_div hc.hV0, Nat.div_eq_of_lt hrV, Nat.add_zero]
        rw [← h1, hA, hV, Nat.mul_div_mul_right _ _ (by omega)]
      have hrem : val rl / f = val a % val b := by
        have h1 : A % V = val rl := by rw [hAe, Nat.mul_add_mod, Nat.mod_eq_of_lt hrV]
        rw [← h1, hA, hV, Nat.mul_mod_mul_right, Nat.mul_div_cancel _ (by omega)]
      have hrk : (dg (val rl)).length ≤ n := by rw [hnn]; exact dg_length_mono (Nat.le_of_lt hrV)
      have hkl : (dg (val rl)).length ≤ rl.length := dg_length_le hrl
      cases rl with
      | nil =>
        repeat' ((conv => whnf); first | refine ngo ?_ | refine VB.tt ?_ | refine VB.ff ?_ | refine VNew.keep ?_ | refine dgo ?_ | refine sgo ?_ | fail)
        conv => whnf
        refine VLoop.use (rest_nil (f := f)) ⟨⟨rfl, rfl, rfl, trivial⟩, rfl, rfl⟩ ?_
        rintro - -
        repeat' ((conv => whnf); first | refine ngo ?_ | refine VB.tt ?_ | refine VB.ff ?_ | refine VNew.keep ?_ | refine dgo ?_ | refine sgo ?_ | fail)
        conv => whnf
        have ht := rtrim_own (H := [.cells 0 41 (limbs q)]) (b := 0) (ver := 0) (e := 41) (l := q) (k0 := lq) rfl hq (by omega) (by omega)
        refine ht.mono fun v H' hq' => ?_
        obtain ⟨rfl, rfl⟩ := hq'
        repeat' ((conv => whnf); first | refine ngo ?_ | refine VB.tt ?_ | refine VB.ff ?_ | refine VNew.keep ?_ | refine dgo ?_ | refine sgo ?_ | fail)
        conv => whnf
        refine rtrim_nil.mono fun v H' hq' => ?_
        obtain ⟨rfl, rfl⟩ := hq'
        repeat' ((conv => whnf); first | refine ngo ?_ | refine VB.tt ?_ | refine VB.ff ?_ | refine VNew.keep ?_ | refine dgo ?_ | refine sgo ?_ | fail)
        conv => whnf
        have h0 : val a % val b = 0 := by rw [← hrem]; simp [val]
        rw [h0, List.take_of_length_le (by omega), ← hquo]
        exact .tup (.cons (.nat (Nat.zero_le _) (by simp) rfl (by rw [Nat.mul_one, limbs_take, take_dg hq]) rfl) (.cons fz_nil0 .nil))
      | cons x rl =>
        repeat' ((conv => whnf); first | refine ngo ?_ | refine VB.tt ?_ | refine VB.ff ?_ | refine VNew.keep ?_ | refine dgo ?_ | refine sgo ?_ | fail)
        conv => whnf
        refine VLoop.use (rest_loop (lq := lq) (ver := rl.length) (q := q) hrl hf1 hf2 (by omega)) ⟨⟨rfl, rfl, rfl, rfl, rfl, trivial⟩, rfl, rfl⟩ ?_
        rintro y ⟨hyl, hy, hyv⟩
        repeat' ((conv => whnf); first | refine ngo ?_ | refine VB.tt ?_ | refine VB.ff ?_ | refine VNew.keep ?_ | refine dgo ?_ | refine sgo ?_ | fail)
        conv => whnf
        have ht := rtrim_own (H := [.cells 0 41 (limbs q), .cells rl.length 41 (limbs y)]) (b := 0) (ver := 0) (e := 41) (l := q) (k0 := lq) rfl hq (by omega) (by omega)
        refine ht.mono fun v H' hq' => ?_
        obtain ⟨rfl, rfl⟩ := hq'
        repeat' ((conv => whnf); first | refine ngo ?_ | refine VB.tt ?_ | refine VB.ff ?_ | refine VNew.keep ?_ | refine dgo ?_ | refine sgo ?_ | fail)
        conv => whnf
        have ht := rtrim_own (H := [.cells 0 41 (limbs q), .cells rl.length 41 (limbs y)]) (b := 1) (ver := rl.length) (e := 41) (l := y) (k0 := (dg (val (x :: rl))).length) rfl hy (by omega) (by omega)
        rw [hyv] at ht
        refine ht.mono fun v H' hq' => ?_
        obtain ⟨rfl, rfl⟩ := hq'
        have hytk := take_dg (hy.take (dg (val (x :: rl))).length)
        rw [hyv, List.take_take, Nat.min_eq_left (by rw [← hyv]; have := dg_length_le (hy.take (dg (val (x :: rl))).length); simp at this; omega)] at hytk
        repeat' ((conv => whnf); first | refine ngo ?_ | refine VB.tt ?_ | refine VB.ff ?_ | refine VNew.keep ?_ | refine dgo ?_ | refine sgo ?_ | fail)
        conv => whnf
        rw [← hrem, List.take_of_length_le (by omega), ← hquo]
        exact .tup (.cons (.nat (Nat.zero_le _) (by simp) rfl (by rw [Nat.mul_one, limbs_take, take_dg hq]) rfl) (.cons (.nat (Nat.zero_le _) (by simp) rfl (by rw [Nat.mul_one, limbs_take, hytk]) rfl) .nil))
end Go.Proofs.Ytoijfbdjlagooaa


/- Contracts: the document's calls for quotients, divisors and multiples. -/
namespace Go.Proofs.Ytoijfbdjlagooaa
open Go Go.RowKit
set_option linter.unusedVariables false
set_option linter.unusedSimpArgs false
set_option maxRecDepth 100000

theorem over_n {a b : Nat} (hb : b ≠ 0) (la : (dg a).length < 8000000) (lb : (dg b).length < 8000000) : VCall EE 104 [natv a, natv b] [] fun v H => Fz H 0 [] v (.tup [natv (a / b), natv (a % b)]) := by
  have := over_c (canon_dg a) (canon_dg b) (fun h => hb (dg_eq_nil.1 h)) la lb
  rwa [val_dg, val_dg] at this

theorem dg_len_zero {n : Nat} (h : (dg n).length = 0) : n = 0 := dg_eq_nil.1 (List.length_eq_zero_iff.1 h)

theorem rcommon_n {a b : Nat} (la : (dg a).length < 8000000) (lb : (dg b).length < 8000000) : VCall EE 79 [natv a, natv b] [] fun v H => v = natv (Nat.gcd a b) := by
  refine VCall.of_body true Try.func79 rfl (by decide) rfl ?_
  repeat' ((conv => whnf); first | refine ngo ?_ | refine VB.tt ?_ | refine VB.ff ?_ | refine VNew.keep ?_ | refine dgo ?_ | refine sgo ?_ | fail)
  conv => whnf
  refine VLoop.ix true (fun x : Nat × Nat => ⟨[(0, natv x.1), (1, natv x.2)], [], []⟩) (fun x => Nat.gcd x.1 x.2 = Nat.gcd a b ∧ (dg x.1).length < 8000000 ∧ (dg x.2).length < 8000000) (fun x => x.2) (a, b) ⟨rfl, la, lb⟩ ⟨⟨rfl, rfl, trivial⟩, rfl, rfl⟩ ?_
  rintro ⟨x, y⟩ ⟨hg, lx, ly⟩
  dsimp only at hg lx ly ⊢
  repeat' ((conv => whnf); first | refine ngo ?_ | refine VB.tt ?_ | refine VB.ff ?_ | refine VNew.keep ?_ | refine dgo ?_ | refine sgo ?_ | fail)
  conv => whnf
  refine VB.dec (fun h => ?_) (fun h => ?_)
  · have hy : y ≠ 0 := by rintro rfl; rw [dg_zero] at h; exact absurd h (by decide)
    repeat' ((conv => whnf); first | refine ngo ?_ | refine VB.tt ?_ | refine VB.ff ?_ | refine VNew.keep ?_ | refine dgo ?_ | refine sgo ?_ | fail)
    conv => whnf
    refine VCall.i (over_n hy lx ly) ?_
    repeat' ((conv => whnf); first | refine ngo ?_ | refine VB.tt ?_ | refine VB.ff ?_ | refine VNew.keep ?_ | refine dgo ?_ | refine sgo ?_ | fail)
    conv => whnf
    refine ⟨(y, x % y), ⟨?_, ly, ?_⟩, Nat.mod_lt _ (by omega), ⟨⟨rfl, rfl, trivial⟩, rfl, rfl⟩⟩
    · dsimp only; rw [← hg, Nat.gcd_comm y, ← Nat.gcd_rec, Nat.gcd_comm]
    · dsimp only; exact Nat.lt_of_le_of_lt (dg_length_mono (Nat.le_of_lt (Nat.mod_lt _ (by omega)))) ly
  · have hy : y = 0 := dg_len_zero (by omega)
    subst hy
    rw [Nat.gcd_zero_right] at hg
    subst hg
    repeat' ((conv => whnf); first | refine ngo ?_ | refine VB.tt ?_ | refine VB.ff ?_ | refine VNew.keep ?_ | refine dgo ?_ | refine sgo ?_ | fail)
    conv => whnf
    rfl

/-- What a quotient and a remainder are, or which error. -/
def divR (a b : List Nat) : AV := if both2 a b = 0 then (if val b = 0 then .tup [natv 0, natv 0, .int .i64 6] else .tup [natv (val a / val b), natv (val a % val b), .int .i64 0]) else .tup [natv 0, natv 0, .int .i64 (both2 a b)]

theorem val_zero_nil {b : List Nat} (hb : canon b) : val b = 0 ↔ b = [] := by
  constructor
  · intro h; rw [← dg_val hb, h, dg_zero]
  · rintro rfl; rfl

theorem canon_natL {a : List Nat} (h : canon a) : natL a = natv (val a) := natv_of h

theorem gcd_len {a b : List Nat} (ca : canon a) (cb : canon b) (la : a.length ≤ 1024) (lb : b.length ≤ 1024) : (dg (Nat.gcd (val a) (val b))).length ≤ 1024 := by
  rcases Nat.eq_zero_or_pos (val a) with h | h
  · rw [h, Nat.gcd_zero_left, dg_val cb]; exact lb
  · have := dg_length_mono (Nat.gcd_le_left (val b) h)
    rw [dg_val ca] at this
    omega

/-- The least common multiple: the number, and which error. -/
def lcmN (a b : Nat) : Nat := if 1024 < (dg (Nat.lcm a b)).length then 0 else Nat.lcm a b
def lcmE (a b : Nat) : Int := if 1024 < (dg (Nat.lcm a b)).length then 5 else 0
theorem lcm_alt {a b : Nat} : Nat.lcm a b = a / Nat.gcd a b * b := by
  rw [Nat.lcm, Nat.div_mul_right_comm (Nat.gcd_dvd_left a b)]

theorem lcm_len {a b : List Nat} (ca : canon a) (cb : canon b) (la : a.length ≤ 1024) (lb : b.length ≤ 1024) : (dg (Nat.lcm (val a) (val b))).length ≤ 2048 := by
  have h1 := dg_length_mono (Nat.mul_le_mul_right (val b) (Nat.div_le_self (val a) (Nat.gcd (val a) (val b))))
  have h2 := dg_mul_le (val a) (val b)
  rw [dg_val ca, dg_val cb] at h2
  rw [lcm_alt]
  omega

end Go.Proofs.Ytoijfbdjlagooaa


/- Contracts: the law's own helpers. -/
namespace Go.Proofs.Ytoijfbdjlagooaa
open Go Go.RowKit
set_option linter.unusedVariables false
set_option linter.unusedSimpArgs false
set_option maxRecDepth 100000

def mulN (a b : Nat) : Nat := if 1024 < (dg (a * b)).length then 0 else a * b
def mulE (a b : Nat) : Int := if 1024 < (dg (a * b)).length then 5 else 0
theorem mul_len {a b : List Nat} (ca : canon a) (cb : canon b) (la : a.length ≤ 1024) (lb : b.length ≤ 1024) : (dg (val a * val b)).length ≤ 2048 := by
  have h2 := dg_mul_le (val a) (val b)
  rw [dg_val ca, dg_val cb] at h2
  omega

theorem alike_same (a : List Nat) (la : a.length < 1000000000) : VCall EE 37 [natL a, natL a] [] fun v H => v = .bool true := by
  have h := alike_c la la
  rwa [decide_eq_true rfl] at h

theorem natv_lit {w : List Nat} {n : Nat} (hw : canonB w = true) (hn : val w = n) : natv n = natL w := by
  rw [natv, ← hn, dg_val (canonB_iff.1 hw)]

theorem dg_len_of {n : Nat} {w : List Nat} (hw : canonB w = true) (hn : val w = n) : (dg n).length = w.length := by rw [← hn, dg_val (canonB_iff.1 hw)]

theorem divR_ex (a b : List Nat) (la : a.length < 10000) : ∃ q r : Nat, ∃ e : Int, divR a b = .tup [natv q, natv r, .int .i64 e] ∧ (dg q).length < 100000 ∧ (dg r).length < 100000 := by
  unfold divR
  split
  · rename_i h
    obtain ⟨h1, h2⟩ := both2_zero h
    obtain ⟨ca, la⟩ := chk_zero h1
    split
    · exact ⟨_, _, _, rfl, by rw [dg_zero]; decide, by rw [dg_zero]; decide⟩
    · refine ⟨_, _, _, rfl, ?_, ?_⟩
      · have := dg_length_mono (Nat.div_le_self (val a) (val b))
        rw [dg_val ca] at this
        omega
      · have := dg_length_mono (Nat.mod_le (val a) (val b))
        rw [dg_val ca] at this
        omega
  · exact ⟨_, _, _, rfl, by rw [dg_zero]; decide, by rw [dg_zero]; decide⟩

theorem lcmN_len (a b : Nat) : (dg (lcmN a b)).length ≤ 1024 := by
  unfold lcmN
  split
  · rw [dg_zero]; decide
  · omega
theorem res2_ex (a b : List Nat) (n : Nat) (hn : both2 a b = 0 → (dg n).length ≤ 1024) : ∃ g : Nat, (∀ e, res2 a b n e = .tup [natv g, .int .i64 (if both2 a b = 0 then e else both2 a b)]) ∧ (dg g).length ≤ 1024 := by
  refine ⟨_, fun e => rfl, ?_⟩
  split
  · exact hn (by assumption)
  · rw [dg_zero]; decide

end Go.Proofs.Ytoijfbdjlagooaa
