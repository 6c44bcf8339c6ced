/- Contracts: long division, the digits. -/
import Derived.Test.YtcdnonggajoghaaC6b
namespace Go.Proofs.Ytcdnonggajoghaa
open Go Go.RowKit
set_option linter.unusedVariables false
set_option linter.unusedSimpArgs false
set_option maxRecDepth 100000

set_option maxHeartbeats 3000000 in
theorem digit_loop {f n nA lq V v1 v2 v3 A : Nat} {u0 q0 : List Nat} (hc : DivC f n nA lq V v1 v2 v3 A) (hul0 : u0.length = nA + 2) (hu0 : okL u0) (hql0 : q0.length = lq) (hq0 : okL q0) (hud0 : val (u0.drop lq) < V)
    (hval0 : val u0 + V * val q0 = A) (hqz0 : ∀ k, k < lq → q0.getD k 0 = 0) :
    VLoop EE Try.f32.ntmps none (nthLoop Try.f32 0) (fun e s => e = .exit 0 ∧ ∃ y : List Nat × List Nat, (y.1.length = nA + 2 ∧ okL y.1 ∧ y.2.length = lq ∧ okL y.2 ∧ val y.1 < V ∧ val y.1 + V * val y.2 = A) ∧
      Meets ⟨[(4, .osl 2 0 0 lq 1), (8, .int .u64 f), (9, .osl 0 1 0 (nA + 2) 1)], dHp y.1 y.2, []⟩ s)
      ⟨dFr f n nA lq V v1 v2 ((lq : Int) - 1), dHp u0 q0, []⟩ := by
  have hn := hc.hn
  have hnn := hc.hnn
  have hnA := hc.hnA
  have hnA2 := hc.hnA2
  have hlq := hc.hlq
  have hv1 := hc.hv1
  have hv10 := hc.hv10
  have hv2 := hc.hv2
  have hVv := val_dg V
  have hV0' := hc.hV0
  have hVpow := hc.hVpow
  have hBB : BB = 1000000000 := rfl
  have hP : 0 < BB ^ (n - 2) := Nat.pow_pos (by decide)
  refine VLoop.ix true (fun x : Nat × List Nat × List Nat => ⟨dFr f n nA lq V v1 v2 ((x.1 : Int) - 1), dHp x.2.1 x.2.2, []⟩)
    (fun x => x.1 ≤ lq ∧ x.2.1.length = nA + 2 ∧ okL x.2.1 ∧ x.2.2.length = lq ∧ okL x.2.2 ∧ val (x.2.1.drop x.1) < V ∧ val x.2.1 + V * val x.2.2 = A ∧ ∀ k, k < x.1 → x.2.2.getD k 0 = 0) (fun x => x.1) (lq, u0, q0)
    ⟨Nat.le_refl _, hul0, hu0, hql0, hq0, hud0, hval0, hqz0⟩ ⟨⟨rfl, rfl, rfl, rfl, rfl, rfl, rfl, rfl, trivial⟩, rfl, rfl⟩ ?_
  rintro ⟨i, u, q⟩ ⟨hi, hul, hu, hql, hq, hud, hval, hqz⟩
  dsimp only at hi hul hu hql hq hud hval hqz ⊢
  repeat' ((conv => whnf); first | refine ngo ?_ | refine VB.tt ?_ | refine VB.ff ?_ | refine VNew.keep ?_ | refine dgo ?_ | refine sgo ?_ | fail)
  conv => whnf
  refine VB.dec (fun hi0 => ?_) (fun hi0 => ?_)
  · obtain ⟨i, rfl⟩ : ∃ k, i = k + 1 := ⟨i - 1, by omega⟩
    have ei : ((i + 1 : Nat) : Int) - 1 = (i : Int) := by omega
    rw [ei]
    have ex0 : ((i : Int) + (n : Int)).toNat = i + n := by omega
    have ex1 : ((i : Int) + (n : Int) - 1).toNat = i + n - 1 := by omega
    have ex2 : ((i : Int) + (n : Int) - 2).toNat = i + n - 2 := by omega
    have gx0 : getInt (List.drop (0 + ((i : Int) + (n : Int)).toNat * 1) (limbs u)) = ((u.getD (i + n) 0 : Nat) : Int) := by rw [ex0, Nat.zero_add, Nat.mul_one, getInt_limbs]
    have gx1 : getInt (List.drop (0 + ((i : Int) + (n : Int) - 1).toNat * 1) (limbs u)) = ((u.getD (i + n - 1) 0 : Nat) : Int) := by rw [ex1, Nat.zero_add, Nat.mul_one, getInt_limbs]
    have gx2 : getInt (List.drop (0 + ((i : Int) + (n : Int) - 2).toNat * 1) (limbs u)) = ((u.getD (i + n - 2) 0 : Nat) : Int) := by rw [ex2, Nat.zero_add, Nat.mul_one, getInt_limbs]
    have hx0 := getD_lt hu (i + n)
    have hx1 := getD_lt hu (i + n - 1)
    have hx2 := getD_lt hu (i + n - 2)
    have hwl : ((u.drop i).take (n + 1)).length = n + 1 := by rw [List.length_take, List.length_drop]; omega
    have hU := three_split hwl (by omega)
    have hwg : ∀ k, k < n + 1 → ((u.drop i).take (n + 1)).getD k 0 = u.getD (i + k) 0 := fun k hk => by
      simp [List.getD_eq_getElem?_getD, List.getElem?_take, hk, List.getElem?_drop]
    rw [hwg n (by omega), hwg (n - 1) (by omega), hwg (n - 2) (by omega), List.take_take, Nat.min_eq_left (by omega), show i + (n - 1) = i + n - 1 by omega, show i + (n - 2) = i + n - 2 by omega] at hU
    have hu3 : val ((u.drop i).take (n - 2)) < BB ^ (n - 2) := by
      have := val_lt ((hu.drop i).take (n - 2))
      rwa [List.length_take, List.length_drop, Nat.min_eq_left (by omega)] at this
    have hui : val (u.drop i) = u.getD i 0 + BB * val (u.drop (i + 1)) := by
      rw [List.drop_eq_getElem_cons (by omega), val]
      simp [List.getD_eq_getElem?_getD, show i < u.length by omega]
    have hxi := getD_lt hu i
    have hUV : val (u.drop i) < V * BB := by
      have h1 : BB * (val (u.drop (i + 1)) + 1) ≤ BB * V := Nat.mul_le_mul_left _ hud
      rw [Nat.mul_comm V BB]
      rw [Nat.mul_add] at h1
      omega
    have hUs : seg u i (n + 1) = val (u.drop i) := by
      unfold seg
      rw [val_take (hu.drop i)]
      refine Nat.mod_eq_of_lt (Nat.lt_of_lt_of_le hUV ?_)
      rw [Nat.pow_succ]
      exact Nat.mul_le_mul_right _ (Nat.le_of_lt hVpow)
    have hU' : seg u i (n + 1) = val ((u.drop i).take (n + 1)) := rfl
    rw [← hU', hUs] at hU
    generalize hU0 : val (u.drop i) = U at *
    generalize u.getD (i + n) 0 = x0 at *
    generalize u.getD (i + n - 1) 0 = x1 at *
    generalize hx2e : u.getD (i + n - 2) 0 = x2 at *
    generalize val ((u.drop i).take (n - 2)) = u3 at *
    obtain ⟨top, htop⟩ : ∃ top, top = x0 * BB + x1 := ⟨_, rfl⟩
    have gt : (x0 : Int) * 1000000000 + (x1 : Int) = (top : Int) := by rw [htop]; simp
    rw [← htop] at hU
    have htb : top < (v1 + 1) * BB := kn_top hc.hsp hU hP (by decide) hv2 hc.hv3 hUV
    have htb2 : top < BB * BB := Nat.lt_of_lt_of_le htb (Nat.mul_le_mul_right _ hv1)
    have hBB2 : BB * BB = 1000000000000000000 := rfl
    have hfst := kn_first hc.hsp hU (by omega) (by decide) hP hx2 hu3
    have g5 := tdiv_nat top v1
    have g6 := tmod_nat top v1
    have hdm := Nat.div_add_mod top v1
    have hdl := Nat.div_le_self top v1
    have hml := Nat.mod_lt top (show 0 < v1 by omega)
    generalize top / v1 = gs at *
    generalize top % v1 = rs at *
    repeat' ((conv => whnf); first | refine ngo ?_ | refine VB.tt ?_ | refine VB.ff ?_ | refine VNew.keep ?_ | refine dgo ?_ | refine sgo ?_ | fail)
    conv => whnf
    rw [gx0]
    repeat' ((conv => whnf); first | refine ngo ?_ | refine VB.tt ?_ | refine VB.ff ?_ | refine VNew.keep ?_ | refine dgo ?_ | refine sgo ?_ | fail)
    conv => whnf
    rw [gx1]
    repeat' ((conv => whnf); first | refine ngo ?_ | refine VB.tt ?_ | refine VB.ff ?_ | refine VNew.keep ?_ | refine dgo ?_ | refine sgo ?_ | fail)
    conv => whnf
    rw [gt]
    repeat' ((conv => whnf); first | refine ngo ?_ | refine VB.tt ?_ | refine VB.ff ?_ | refine VNew.keep ?_ | refine dgo ?_ | refine sgo ?_ | fail)
    conv => whnf
    rw [g5]
    repeat' ((conv => whnf); first | refine ngo ?_ | refine VB.tt ?_ | refine VB.ff ?_ | refine VNew.keep ?_ | refine dgo ?_ | refine sgo ?_ | fail)
    conv => whnf
    refine VLoop.use (guess_loop (A := A) (q := q) (gs := gs) (rs := rs) hc hul hu (by omega) hU hu3 hx2 hx2e htb htb2 hml (by rw [Nat.mul_comm]; exact hdm) hfst hUV) ⟨⟨rfl, by simp [lk, g6], rfl, rfl, rfl, rfl, rfl, rfl, rfl, rfl, trivial⟩, rfl, rfl⟩ ?_
    · rintro g ⟨hgB, hq1, hq2⟩
      repeat' ((conv => whnf); first | refine ngo ?_ | refine VB.tt ?_ | refine VB.ff ?_ | refine VNew.keep ?_ | refine dgo ?_ | refine sgo ?_ | fail)
      conv => whnf
      have hBB2' : BB * BB = 1000000000000000000 := hBB2
      have hV0' : 0 < V := by omega
      have hdm2 := Nat.div_add_mod U V
      have hml2 := Nat.mod_lt U hV0'
      have eo1 : 0 + (i : Int).toNat * 1 = i := by omega
      have eo2 : ((i : Int) + (n : Int) + 1).toNat - (i : Int).toNat = n + 1 := by omega
      have hlt : val (dg V) * g < BB ^ (n + 1) := by
        rw [hVv, Nat.pow_succ]
        exact Nat.mul_lt_mul'' hVpow hgB
      have hb := borrowed_own (R := [.cells 0 30 [AV.int .u32 0, AV.int .u32 0], .cells 0 30 (limbs q)]) (ver := 1) (e := 30) (l := u) (v := dg V) (j := i) (m := n + 1) (by_ := g) hu (canon_dg V).1 hgB (by omega) (by omega) (by omega) hlt
      rw [show natL (dg V) = .dsl (limbs (dg V)) n by rw [hnn]; rfl] at hb
      rw [eo1, eo2]
      refine hb.mono fun r H' hq' => ?_
      obtain ⟨u1, b1, hul1, hu1, hs1, rfl, rfl, heq⟩ := hq'
      rw [hVv, hUs, Nat.mul_comm V g] at heq
      clear gx0 gx1 gx2 g5 g6 gt hb
      cases b1 with
      | false =>
        have hgd : g = U / V := by
          have h1 : g * V ≤ U := by simp at heq; omega
          have := (Nat.le_div_iff_mul_le hV0').2 h1
          omega
        have hsm : seg u1 i (n + 1) = U % V := by
          simp at heq
          rw [hgd, Nat.mul_comm] at heq
          omega
        obtain ⟨hr1, hr2⟩ := kn_done (by omega) (by omega) hs1 hV0' hUs hU0 hsm hgd (hqz i (by omega)) (by omega) hval
        repeat' ((conv => whnf); first | refine ngo ?_ | refine VB.tt ?_ | refine VB.ff ?_ | refine VNew.keep ?_ | refine dgo ?_ | refine sgo ?_ | fail)
        conv => whnf
        refine ⟨(i, u1, q.set i g), ⟨by dsimp only; omega, by dsimp only; omega, hu1, by dsimp only; rw [List.length_set]; exact hql, okL_set hq _ (by omega), hr1, hr2, ?_⟩, by dsimp only; omega, ⟨⟨rfl, rfl, rfl, rfl, rfl, rfl, rfl, rfl, trivial⟩, ?_, rfl⟩⟩
        · intro k' hk'
          dsimp only at hk' ⊢
          rw [getD_set_ne' (by omega)]
          exact hqz k' (by omega)
        · show [_, _, AObj.cells _ _ (splice _ _ _)] = _
          rw [eo1, splice_limbs (by omega)]
          rfl
      | true =>
        rw [if_pos rfl] at heq
        have hgd : g = U / V + 1 := by
          have h1 := val_lt ((hu1.drop i).take (n + 1))
          rw [List.length_take, List.length_drop, Nat.min_eq_left (by omega)] at h1
          have h1 : seg u1 i (n + 1) < BB ^ (n + 1) := h1
          have h2 : U < g * V := by omega
          have := (Nat.div_lt_iff_lt_mul hV0').2 h2
          omega
        have hsV : seg u1 i (n + 1) + V = U % V + BB ^ (n + 1) := by
          rw [hgd, Nat.add_mul, Nat.mul_comm, Nat.one_mul] at heq
          omega
        have hs1n := seg_succ (l := u1) (j := i) (i := n) (by omega)
        have hw := getD_lt hu1 (i + n)
        generalize hwe : u1.getD (i + n) 0 = w at *
        have hg1 : 1 ≤ g := by rw [hgd]; exact Nat.succ_pos _
        have eg1 : (g : Int) - 1 = ((g - 1 : Nat) : Int) := by omega
        repeat' ((conv => whnf); first | refine ngo ?_ | refine VB.tt ?_ | refine VB.ff ?_ | refine VNew.keep ?_ | refine dgo ?_ | refine sgo ?_ | fail)
        conv => whnf
        refine VLoop.use (back_loop (A := A) (g := g - 1) (q := q) hc (by omega) hu1 (by omega)) ⟨⟨rfl, rfl, rfl, by simp [lk]; omega, rfl, rfl, rfl, rfl, rfl, rfl, rfl, rfl, trivial⟩, rfl, rfl⟩ ?_
        rintro ⟨u2, c⟩ ⟨hul2, hu2, hcc, hs2, heq2⟩
        dsimp only at hul2 hu2 hcc hs2 heq2 ⊢
        have hgd' : g - 1 = U / V := by omega
        generalize g - 1 = g' at *
        have hwn := hs2 (i + n) (.inr (Nat.le_refl _))
        rw [hwe] at hwn
        have hs2l := val_lt ((hu2.drop i).take n)
        rw [List.length_take, List.length_drop, Nat.min_eq_left (by omega)] at hs2l
        have hs2l : seg u2 i n < BB ^ n := hs2l
        obtain ⟨he1, he2⟩ := split_unique (P := BB ^ n) (s := seg u2 i n) (c := c + w) (R := U % V) (B := BB) (by rw [Nat.mul_add, show BB ^ n * BB = BB ^ (n + 1) from (Nat.pow_succ ..).symm]; omega) hs2l (by omega)
        have ek : ((i : Int) + (n : Int)).toNat = i + n := by omega
        have gx : getInt (List.drop (0 + ((i : Int) + (n : Int)).toNat * 1) (limbs u2)) = (w : Int) := by rw [ek, Nat.zero_add, Nat.mul_one, getInt_limbs, hwn]
        have g0 : (w : Int) + (c : Int) = ((BB : Nat) : Int) := by omega
        have g6 : ((BB : Nat) : Int).tmod 1000000000 = ((0 : Nat) : Int) := rfl
        have hsm : seg (u2.set (i + n) 0) i (n + 1) = U % V := by
          rw [seg_succ (by rw [List.length_set]; omega), seg_set (Nat.le_refl _), getD_set_eq (by omega), he1]
          simp
        have hs3 : ∀ k', k' < i ∨ i + (n + 1) ≤ k' → (u2.set (i + n) 0).getD k' 0 = u.getD k' 0 := by
          intro k' hk'
          rw [getD_set_ne' (by omega), hs2 k' (by omega)]
          exact hs1 k' hk'
        have hu3 := okL_set hu2 (i + n) (show 0 < BB by decide)
        have hul3 : (u2.set (i + n) 0).length = nA + 2 := by rw [List.length_set]; omega
        have hsp3 : splice (limbs u2) (0 + ((i : Int) + (n : Int)).toNat * 1) [.int .u32 ((0 : Nat) : Int)] = limbs (u2.set (i + n) 0) := by
          rw [ek, Nat.zero_add, Nat.mul_one, splice_limbs (by omega)]
        obtain ⟨hr1, hr2⟩ := kn_done (by omega) (by omega) hs3 hV0' hUs hU0 hsm hgd' (hqz i (by omega)) (by omega) hval
        generalize hu3e : u2.set (i + n) 0 = u3 at *
        repeat' ((conv => whnf); first | refine ngo ?_ | refine VB.tt ?_ | refine VB.ff ?_ | refine VNew.keep ?_ | refine dgo ?_ | refine sgo ?_ | fail)
        conv => whnf
        rw [gx]
        repeat' ((conv => whnf); first | refine ngo ?_ | refine VB.tt ?_ | refine VB.ff ?_ | refine VNew.keep ?_ | refine dgo ?_ | refine sgo ?_ | fail)
        conv => whnf
        rw [g0]
        repeat' ((conv => whnf); first | refine ngo ?_ | refine VB.tt ?_ | refine VB.ff ?_ | refine VNew.keep ?_ | refine dgo ?_ | refine sgo ?_ | fail)
        conv => whnf
        rw [g6]
        repeat' ((conv => whnf); first | refine ngo ?_ | refine VB.tt ?_ | refine VB.ff ?_ | refine VNew.keep ?_ | refine dgo ?_ | refine sgo ?_ | fail)
        conv => whnf
        refine ⟨(i, u3, q.set i g'), ⟨by dsimp only; omega, by dsimp only; omega, hu3, by dsimp only; rw [List.length_set]; exact hql, okL_set hq _ (by omega), hr1, hr2, ?_⟩, by dsimp only; omega, ⟨⟨rfl, rfl, rfl, rfl, rfl, rfl, rfl, rfl, trivial⟩, ?_, rfl⟩⟩
        · intro k' hk'
          dsimp only at hk' ⊢
          rw [getD_set_ne' (by omega)]
          exact hqz k' (by omega)
        · show [_, _, AObj.cells _ _ (splice _ _ _)] = _
          rw [eo1, splice_limbs (by omega), splice_limbs (by omega), ek, Nat.zero_add, Nat.mul_one, hu3e]
          rfl
  · have : i = 0 := by omega
    subst this
    rw [List.drop_zero] at hud
    repeat' ((conv => whnf); first | refine ngo ?_ | refine VB.tt ?_ | refine VB.ff ?_ | refine VNew.keep ?_ | refine dgo ?_ | refine sgo ?_ | fail)
    conv => whnf
    exact ⟨(u, q), ⟨hul, hu, hql, hq, hud, hval⟩, ⟨⟨rfl, rfl, rfl, trivial⟩, rfl, rfl⟩⟩
end Go.Proofs.Ytcdnonggajoghaa
