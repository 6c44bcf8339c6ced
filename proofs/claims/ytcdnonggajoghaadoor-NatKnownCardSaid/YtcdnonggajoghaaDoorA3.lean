/- The program logic and the contracts that a law leans on, part 3. -/
import Derived.Test.YtcdnonggajoghaaDoorA2
import Derived.Test.YtcdnonggajoghaaDoorA1
import Derived.Laws.Strings

/- Contracts: long division, the sum taken back. -/
namespace Go.Proofs.YtcdnonggajoghaaDoor
open Go Go.RowKit
set_option linter.unusedVariables false
set_option linter.unusedSimpArgs false
set_option maxRecDepth 100000

theorem back_loop {f n nA lq V v1 v2 v3 A i g : Nat} {u1 q : List Nat} (hc : DivC f n nA lq V v1 v2 v3 A) (hul1 : u1.length = nA + 2) (hu1 : okL u1) (hi : i + n < nA + 2) :
    VLoop EE Tryd.f51.ntmps none (nthLoop Tryd.f51 2) (fun e s => e = .exit 4 ∧ ∃ y : List Nat × Nat, (y.1.length = nA + 2 ∧ okL y.1 ∧ y.2 ≤ 1 ∧ (∀ k, k < i ∨ i + n ≤ k → y.1.getD k 0 = u1.getD k 0) ∧ seg y.1 i n + BB ^ n * y.2 = seg u1 i n + V) ∧
      Meets ⟨(18, .int .u64 y.2) :: (16, .int .u64 g) :: dFr f n nA lq V v1 v2 i, dHp y.1 q, []⟩ s)
      ⟨(18, .int .u64 (0 : Nat)) :: (150, .int .i64 n) :: (151, .int .i64 (0 : Nat)) :: (16, .int .u64 g) :: dFr f n nA lq V v1 v2 i, dHp u1 q, []⟩ := by
  have hn := hc.hn
  have hnn := hc.hnn
  have hnA := hc.hnA
  have hnA2 := hc.hnA2
  have hlq := hc.hlq
  have hVv := val_dg V
  have hBB : BB = 1000000000 := rfl
  refine VLoop.ix true (fun y : Nat × List Nat × Nat => ⟨(18, .int .u64 y.2.2) :: (150, .int .i64 n) :: (151, .int .i64 y.1) :: (16, .int .u64 g) :: dFr f n nA lq V v1 v2 i, dHp y.2.1 q, []⟩)
    (fun y => y.1 ≤ n ∧ y.2.1.length = nA + 2 ∧ okL y.2.1 ∧ y.2.2 ≤ 1 ∧ (∀ k, k < i ∨ i + y.1 ≤ k → y.2.1.getD k 0 = u1.getD k 0) ∧ seg y.2.1 i y.1 + BB ^ y.1 * y.2.2 = seg u1 i y.1 + val ((dg V).take y.1)) (fun y => n - y.1) (0, u1, 0)
    ⟨Nat.zero_le _, hul1, hu1, Nat.zero_le _, fun _ _ => rfl, by simp [seg_zero, val]⟩ ⟨⟨rfl, rfl, rfl, rfl, rfl, rfl, rfl, rfl, rfl, rfl, rfl, rfl, trivial⟩, rfl, rfl⟩ ?_
  rintro ⟨k, u2, c⟩ ⟨hk, hul2, hu2, hcc, hs2, heq2⟩
  dsimp only at hk hul2 hu2 hcc hs2 heq2 ⊢
  repeat' ((conv => whnf); first | refine ngo ?_ | refine VB.tt ?_ | refine VB.ff ?_ | refine VNew.keep ?_ | refine dgo ?_ | refine sgo ?_ | fail)
  conv => whnf
  refine VB.dec (fun hkn => ?_) (fun hkn => ?_)
  · have hx := getD_lt hu2 (i + k)
    have hy := getD_lt (canon_dg V).1 k
    have gy : getInt (List.drop ((k : Int).toNat * 1) (limbs (dg V))) = (((dg V).getD k 0 : Nat) : Int) := by rw [Int.toNat_natCast, Nat.mul_one, getInt_limbs]
    have ek : ((k : Int) + (i : Int)).toNat = i + k := by omega
    have gx : getInt (List.drop (0 + ((k : Int) + (i : Int)).toNat * 1) (limbs u2)) = ((u2.getD (i + k) 0 : Nat) : Int) := by rw [ek, Nat.zero_add, Nat.mul_one, getInt_limbs]
    have hux := hs2 (i + k) (.inr (Nat.le_refl _))
    have hs3 := seg_succ (l := u1) (j := i) (i := k) (by omega)
    have ht3 := val_take_succ (l := dg V) (i := k) (by omega)
    have hs4 := fun c' => seg_succ (l := u2.set (i + k) c') (j := i) (i := k) (by rw [List.length_set]; omega)
    rw [← hux] at hs3
    generalize hyy : (dg V).getD k 0 = y at *
    generalize hxx : u2.getD (i + k) 0 = x at *
    obtain ⟨sm, hsm⟩ : ∃ sm, sm = x + y + c := ⟨_, rfl⟩
    have g0 : (x : Int) + (y : Int) + (c : Int) = (sm : Int) := by omega
    have hmd := Nat.mod_add_div sm BB
    have hmm := Nat.mod_lt sm (show 0 < BB by decide)
    have hmq : sm / BB ≤ 1 := Nat.le_of_lt_succ (Nat.div_lt_of_lt_mul (by omega))
    have g5 := tdiv_BB sm
    have g6 := tmod_BB sm
    generalize sm / BB = sq at *
    generalize sm % BB = sr at *
    repeat' ((conv => whnf); first | refine ngo ?_ | refine VB.tt ?_ | refine VB.ff ?_ | refine VNew.keep ?_ | refine dgo ?_ | refine sgo ?_ | fail)
    conv => whnf
    rw [gx]
    repeat' ((conv => whnf); first | refine ngo ?_ | refine VB.tt ?_ | refine VB.ff ?_ | refine VNew.keep ?_ | refine dgo ?_ | refine sgo ?_ | fail)
    conv => whnf
    rw [gy]
    repeat' ((conv => whnf); first | refine ngo ?_ | refine VB.tt ?_ | refine VB.ff ?_ | refine VNew.keep ?_ | refine dgo ?_ | refine sgo ?_ | fail)
    conv => whnf
    rw [g0]
    repeat' ((conv => whnf); first | refine ngo ?_ | refine VB.tt ?_ | refine VB.ff ?_ | refine VNew.keep ?_ | refine dgo ?_ | refine sgo ?_ | fail)
    conv => whnf
    rw [g6]
    repeat' ((conv => whnf); first | refine ngo ?_ | refine VB.tt ?_ | refine VB.ff ?_ | refine VNew.keep ?_ | refine dgo ?_ | refine sgo ?_ | fail)
    conv => whnf
    refine ⟨(k + 1, u2.set (i + k) sr, sq), ⟨by dsimp only; omega, by dsimp only; rw [List.length_set]; omega, okL_set hu2 _ hmm, hmq, ?_, ?_⟩, by dsimp only; omega, ⟨⟨?_, rfl, ?_, rfl, rfl, rfl, rfl, rfl, rfl, rfl, rfl, rfl, trivial⟩, ?_, rfl⟩⟩
    · intro k' hk'
      dsimp only at hk' ⊢
      rw [getD_set_ne' (by omega)]
      exact hs2 k' (by omega)
    · dsimp only
      rw [hs4, seg_set (Nat.le_refl _), getD_set_eq (by omega), hs3, ht3, Nat.pow_succ, Nat.mul_assoc]
      have e1 : BB ^ k * sr + BB ^ k * (BB * sq) = BB ^ k * x + BB ^ k * y + BB ^ k * c := by
        rw [← Nat.mul_add, hmd, hsm, Nat.mul_add, Nat.mul_add]
      omega
    · simp [lk, g5]
    · simp [lk]
    · show [AObj.cells _ _ (splice _ _ _), _, _] = _
      rw [ek, Nat.zero_add, Nat.mul_one, splice_limbs (by omega)]
      rfl
  · have : k = n := by omega
    subst this
    rw [List.take_of_length_le (by omega), hVv] at heq2
    repeat' ((conv => whnf); first | refine ngo ?_ | refine VB.tt ?_ | refine VB.ff ?_ | refine VNew.keep ?_ | refine dgo ?_ | refine sgo ?_ | fail)
    conv => whnf
    exact ⟨(u2, c), ⟨hul2, hu2, hcc, hs2, heq2⟩, ⟨⟨rfl, rfl, rfl, rfl, rfl, rfl, rfl, rfl, rfl, rfl, trivial⟩, rfl, rfl⟩⟩
end Go.Proofs.YtcdnonggajoghaaDoor


/- Contracts: long division, the digits. -/
namespace Go.Proofs.YtcdnonggajoghaaDoor
open Go Go.RowKit
set_option linter.unusedVariables false
set_option linter.unusedSimpArgs false
set_option maxRecDepth 100000

set_option maxHeartbeats 3000000 in
theorem digit_loop {f n nA lq V v1 v2 v3 A : Nat} {u0 q0 : List Nat} (hc : DivC f n nA lq V v1 v2 v3 A) (hul0 : u0.length = nA + 2) (hu0 : okL u0) (hql0 : q0.length = lq) (hq0 : okL q0) (hud0 : val (u0.drop lq) < V)
    (hval0 : val u0 + V * val q0 = A) (hqz0 : ∀ k, k < lq → q0.getD k 0 = 0) :
    VLoop EE Tryd.f51.ntmps none (nthLoop Tryd.f51 0) (fun e s => e = .exit 0 ∧ ∃ y : List Nat × List Nat, (y.1.length = nA + 2 ∧ okL y.1 ∧ y.2.length = lq ∧ okL y.2 ∧ val y.1 < V ∧ val y.1 + V * val y.2 = A) ∧
      Meets ⟨[(4, .osl 2 0 0 lq 1), (8, .int .u64 f), (9, .osl 0 1 0 (nA + 2) 1)], dHp y.1 y.2, []⟩ s)
      ⟨dFr f n nA lq V v1 v2 ((lq : Int) - 1), dHp u0 q0, []⟩ := by
  have hn := hc.hn
  have hnn := hc.hnn
  have hnA := hc.hnA
  have hnA2 := hc.hnA2
  have hlq := hc.hlq
  have hv1 := hc.hv1
  have hv10 := hc.hv10
  have hv2 := hc.hv2
  have hVv := val_dg V
  have hV0' := hc.hV0
  have hVpow := hc.hVpow
  have hBB : BB = 1000000000 := rfl
  have hP : 0 < BB ^ (n - 2) := Nat.pow_pos (by decide)
  refine VLoop.ix true (fun x : Nat × List Nat × List Nat => ⟨dFr f n nA lq V v1 v2 ((x.1 : Int) - 1), dHp x.2.1 x.2.2, []⟩)
    (fun x => x.1 ≤ lq ∧ x.2.1.length = nA + 2 ∧ okL x.2.1 ∧ x.2.2.length = lq ∧ okL x.2.2 ∧ val (x.2.1.drop x.1) < V ∧ val x.2.1 + V * val x.2.2 = A ∧ ∀ k, k < x.1 → x.2.2.getD k 0 = 0) (fun x => x.1) (lq, u0, q0)
    ⟨Nat.le_refl _, hul0, hu0, hql0, hq0, hud0, hval0, hqz0⟩ ⟨⟨rfl, rfl, rfl, rfl, rfl, rfl, rfl, rfl, trivial⟩, rfl, rfl⟩ ?_
  rintro ⟨i, u, q⟩ ⟨hi, hul, hu, hql, hq, hud, hval, hqz⟩
  dsimp only at hi hul hu hql hq hud hval hqz ⊢
  repeat' ((conv => whnf); first | refine ngo ?_ | refine VB.tt ?_ | refine VB.ff ?_ | refine VNew.keep ?_ | refine dgo ?_ | refine sgo ?_ | fail)
  conv => whnf
  refine VB.dec (fun hi0 => ?_) (fun hi0 => ?_)
  · obtain ⟨i, rfl⟩ : ∃ k, i = k + 1 := ⟨i - 1, by omega⟩
    have ei : ((i + 1 : Nat) : Int) - 1 = (i : Int) := by omega
    rw [ei]
    have ex0 : ((i : Int) + (n : Int)).toNat = i + n := by omega
    have ex1 : ((i : Int) + (n : Int) - 1).toNat = i + n - 1 := by omega
    have ex2 : ((i : Int) + (n : Int) - 2).toNat = i + n - 2 := by omega
    have gx0 : getInt (List.drop (0 + ((i : Int) + (n : Int)).toNat * 1) (limbs u)) = ((u.getD (i + n) 0 : Nat) : Int) := by rw [ex0, Nat.zero_add, Nat.mul_one, getInt_limbs]
    have gx1 : getInt (List.drop (0 + ((i : Int) + (n : Int) - 1).toNat * 1) (limbs u)) = ((u.getD (i + n - 1) 0 : Nat) : Int) := by rw [ex1, Nat.zero_add, Nat.mul_one, getInt_limbs]
    have gx2 : getInt (List.drop (0 + ((i : Int) + (n : Int) - 2).toNat * 1) (limbs u)) = ((u.getD (i + n - 2) 0 : Nat) : Int) := by rw [ex2, Nat.zero_add, Nat.mul_one, getInt_limbs]
    have hx0 := getD_lt hu (i + n)
    have hx1 := getD_lt hu (i + n - 1)
    have hx2 := getD_lt hu (i + n - 2)
    have hwl : ((u.drop i).take (n + 1)).length = n + 1 := by rw [List.length_take, List.length_drop]; omega
    have hU := three_split hwl (by omega)
    have hwg : ∀ k, k < n + 1 → ((u.drop i).take (n + 1)).getD k 0 = u.getD (i + k) 0 := fun k hk => by
      simp [List.getD_eq_getElem?_getD, List.getElem?_take, hk, List.getElem?_drop]
    rw [hwg n (by omega), hwg (n - 1) (by omega), hwg (n - 2) (by omega), List.take_take, Nat.min_eq_left (by omega), show i + (n - 1) = i + n - 1 by omega, show i + (n - 2) = i + n - 2 by omega] at hU
    have hu3 : val ((u.drop i).take (n - 2)) < BB ^ (n - 2) := by
      have := val_lt ((hu.drop i).take (n - 2))
      rwa [List.length_take, List.length_drop, Nat.min_eq_left (by omega)] at this
    have hui : val (u.drop i) = u.getD i 0 + BB * val (u.drop (i + 1)) := by
      rw [List.drop_eq_getElem_cons (by omega), val]
      simp [List.getD_eq_getElem?_getD, show i < u.length by omega]
    have hxi := getD_lt hu i
    have hUV : val (u.drop i) < V * BB := by
      have h1 : BB * (val (u.drop (i + 1)) + 1) ≤ BB * V := Nat.mul_le_mul_left _ hud
      rw [Nat.mul_comm V BB]
      rw [Nat.mul_add] at h1
      omega
    have hUs : seg u i (n + 1) = val (u.drop i) := by
      unfold seg
      rw [val_take (hu.drop i)]
      refine Nat.mod_eq_of_lt (Nat.lt_of_lt_of_le hUV ?_)
      rw [Nat.pow_succ]
      exact Nat.mul_le_mul_right _ (Nat.le_of_lt hVpow)
    have hU' : seg u i (n + 1) = val ((u.drop i).take (n + 1)) := rfl
    rw [← hU', hUs] at hU
    generalize hU0 : val (u.drop i) = U at *
    generalize u.getD (i + n) 0 = x0 at *
    generalize u.getD (i + n - 1) 0 = x1 at *
    generalize hx2e : u.getD (i + n - 2) 0 = x2 at *
    generalize val ((u.drop i).take (n - 2)) = u3 at *
    obtain ⟨top, htop⟩ : ∃ top, top = x0 * BB + x1 := ⟨_, rfl⟩
    have gt : (x0 : Int) * 1000000000 + (x1 : Int) = (top : Int) := by rw [htop]; simp
    rw [← htop] at hU
    have htb : top < (v1 + 1) * BB := kn_top hc.hsp hU hP (by decide) hv2 hc.hv3 hUV
    have htb2 : top < BB * BB := Nat.lt_of_lt_of_le htb (Nat.mul_le_mul_right _ hv1)
    have hBB2 : BB * BB = 1000000000000000000 := rfl
    have hfst := kn_first hc.hsp hU (by omega) (by decide) hP hx2 hu3
    have g5 := tdiv_nat top v1
    have g6 := tmod_nat top v1
    have hdm := Nat.div_add_mod top v1
    have hdl := Nat.div_le_self top v1
    have hml := Nat.mod_lt top (show 0 < v1 by omega)
    generalize top / v1 = gs at *
    generalize top % v1 = rs at *
    repeat' ((conv => whnf); first | refine ngo ?_ | refine VB.tt ?_ | refine VB.ff ?_ | refine VNew.keep ?_ | refine dgo ?_ | refine sgo ?_ | fail)
    conv => whnf
    rw [gx0]
    repeat' ((conv => whnf); first | refine ngo ?_ | refine VB.tt ?_ | refine VB.ff ?_ | refine VNew.keep ?_ | refine dgo ?_ | refine sgo ?_ | fail)
    conv => whnf
    rw [gx1]
    repeat' ((conv => whnf); first | refine ngo ?_ | refine VB.tt ?_ | refine VB.ff ?_ | refine VNew.keep ?_ | refine dgo ?_ | refine sgo ?_ | fail)
    conv => whnf
    rw [gt]
    repeat' ((conv => whnf); first | refine ngo ?_ | refine VB.tt ?_ | refine VB.ff ?_ | refine VNew.keep ?_ | refine dgo ?_ | refine sgo ?_ | fail)
    conv => whnf
    rw [g5]
    repeat' ((conv => whnf); first | refine ngo ?_ | refine VB.tt ?_ | refine VB.ff ?_ | refine VNew.keep ?_ | refine dgo ?_ | refine sgo ?_ | fail)
    conv => whnf
    refine VLoop.use (guess_loop (A := A) (q := q) (gs := gs) (rs := rs) hc hul hu (by omega) hU hu3 hx2 hx2e htb htb2 hml (by rw [Nat.mul_comm]; exact hdm) hfst hUV) ⟨⟨rfl, by simp [lk, g6], rfl, rfl, rfl, rfl, rfl, rfl, rfl, rfl, trivial⟩, rfl, rfl⟩ ?_
    · rintro g ⟨hgB, hq1, hq2⟩
      repeat' ((conv => whnf); first | refine ngo ?_ | refine VB.tt ?_ | refine VB.ff ?_ | refine VNew.keep ?_ | refine dgo ?_ | refine sgo ?_ | fail)
      conv => whnf
      have hBB2' : BB * BB = 1000000000000000000 := hBB2
      have hV0' : 0 < V := by omega
      have hdm2 := Nat.div_add_mod U V
      have hml2 := Nat.mod_lt U hV0'
      have eo1 : 0 + (i : Int).toNat * 1 = i := by omega
      have eo2 : ((i : Int) + (n : Int) + 1).toNat - (i : Int).toNat = n + 1 := by omega
      have hlt : val (dg V) * g < BB ^ (n + 1) := by
        rw [hVv, Nat.pow_succ]
        exact Nat.mul_lt_mul'' hVpow hgB
      have hb := borrowed_own (R := [.cells 0 30 [AV.int .u32 0, AV.int .u32 0], .cells 0 30 (limbs q)]) (ver := 1) (e := 30) (l := u) (v := dg V) (j := i) (m := n + 1) (by_ := g) hu (canon_dg V).1 hgB (by omega) (by omega) (by omega) hlt
      rw [show natL (dg V) = .dsl (limbs (dg V)) n by rw [hnn]; rfl] at hb
      rw [eo1, eo2]
      refine hb.mono fun r H' hq' => ?_
      obtain ⟨u1, b1, hul1, hu1, hs1, rfl, rfl, heq⟩ := hq'
      rw [hVv, hUs, Nat.mul_comm V g] at heq
      clear gx0 gx1 gx2 g5 g6 gt hb
      cases b1 with
      | false =>
        have hgd : g = U / V := by
          have h1 : g * V ≤ U := by simp at heq; omega
          have := (Nat.le_div_iff_mul_le hV0').2 h1
          omega
        have hsm : seg u1 i (n + 1) = U % V := by
          simp at heq
          rw [hgd, Nat.mul_comm] at heq
          omega
        obtain ⟨hr1, hr2⟩ := kn_done (by omega) (by omega) hs1 hV0' hUs hU0 hsm hgd (hqz i (by omega)) (by omega) hval
        repeat' ((conv => whnf); first | refine ngo ?_ | refine VB.tt ?_ | refine VB.ff ?_ | refine VNew.keep ?_ | refine dgo ?_ | refine sgo ?_ | fail)
        conv => whnf
        refine ⟨(i, u1, q.set i g), ⟨by dsimp only; omega, by dsimp only; omega, hu1, by dsimp only; rw [List.length_set]; exact hql, okL_set hq _ (by omega), hr1, hr2, ?_⟩, by dsimp only; omega, ⟨⟨rfl, rfl, rfl, rfl, rfl, rfl, rfl, rfl, trivial⟩, ?_, rfl⟩⟩
        · intro k' hk'
          dsimp only at hk' ⊢
          rw [getD_set_ne' (by omega)]
          exact hqz k' (by omega)
        · show [_, _, AObj.cells _ _ (splice _ _ _)] = _
          rw [eo1, splice_limbs (by omega)]
          rfl
      | true =>
        rw [if_pos rfl] at heq
        have hgd : g = U / V + 1 := by
          have h1 := val_lt ((hu1.drop i).take (n + 1))
          rw [List.length_take, List.length_drop, Nat.min_eq_left (by omega)] at h1
          have h1 : seg u1 i (n + 1) < BB ^ (n + 1) := h1
          have h2 : U < g * V := by omega
          have := (Nat.div_lt_iff_lt_mul hV0').2 h2
          omega
        have hsV : seg u1 i (n + 1) + V = U % V + BB ^ (n + 1) := by
          rw [hgd, Nat.add_mul, Nat.mul_comm, Nat.one_mul] at heq
          omega
        have hs1n := seg_succ (l := u1) (j := i) (i := n) (by omega)
        have hw := getD_lt hu1 (i + n)
        generalize hwe : u1.getD (i + n) 0 = w at *
        have hg1 : 1 ≤ g := by rw [hgd]; exact Nat.succ_pos _
        have eg1 : (g : Int) - 1 = ((g - 1 : Nat) : Int) := by omega
        repeat' ((conv => whnf); first | refine ngo ?_ | refine VB.tt ?_ | refine VB.ff ?_ | refine VNew.keep ?_ | refine dgo ?_ | refine sgo ?_ | fail)
        conv => whnf
        refine VLoop.use (back_loop (A := A) (g := g - 1) (q := q) hc (by omega) hu1 (by omega)) ⟨⟨rfl, rfl, rfl, by simp [lk]; omega, rfl, rfl, rfl, rfl, rfl, rfl, rfl, rfl, trivial⟩, rfl, rfl⟩ ?_
        rintro ⟨u2, c⟩ ⟨hul2, hu2, hcc, hs2, heq2⟩
        dsimp only at hul2 hu2 hcc hs2 heq2 ⊢
        have hgd' : g - 1 = U / V := by omega
        generalize g - 1 = g' at *
        have hwn := hs2 (i + n) (.inr (Nat.le_refl _))
        rw [hwe] at hwn
        have hs2l := val_lt ((hu2.drop i).take n)
        rw [List.length_take, List.length_drop, Nat.min_eq_left (by omega)] at hs2l
        have hs2l : seg u2 i n < BB ^ n := hs2l
        obtain ⟨he1, he2⟩ := split_unique (P := BB ^ n) (s := seg u2 i n) (c := c + w) (R := U % V) (B := BB) (by rw [Nat.mul_add, show BB ^ n * BB = BB ^ (n + 1) from (Nat.pow_succ ..).symm]; omega) hs2l (by omega)
        have ek : ((i : Int) + (n : Int)).toNat = i + n := by omega
        have gx : getInt (List.drop (0 + ((i : Int) + (n : Int)).toNat * 1) (limbs u2)) = (w : Int) := by rw [ek, Nat.zero_add, Nat.mul_one, getInt_limbs, hwn]
        have g0 : (w : Int) + (c : Int) = ((BB : Nat) : Int) := by omega
        have g6 : ((BB : Nat) : Int).tmod 1000000000 = ((0 : Nat) : Int) := rfl
        have hsm : seg (u2.set (i + n) 0) i (n + 1) = U % V := by
          rw [seg_succ (by rw [List.length_set]; omega), seg_set (Nat.le_refl _), getD_set_eq (by omega), he1]
          simp
        have hs3 : ∀ k', k' < i ∨ i + (n + 1) ≤ k' → (u2.set (i + n) 0).getD k' 0 = u.getD k' 0 := by
          intro k' hk'
          rw [getD_set_ne' (by omega), hs2 k' (by omega)]
          exact hs1 k' hk'
        have hu3 := okL_set hu2 (i + n) (show 0 < BB by decide)
        have hul3 : (u2.set (i + n) 0).length = nA + 2 := by rw [List.length_set]; omega
        have hsp3 : splice (limbs u2) (0 + ((i : Int) + (n : Int)).toNat * 1) [.int .u32 ((0 : Nat) : Int)] = limbs (u2.set (i + n) 0) := by
          rw [ek, Nat.zero_add, Nat.mul_one, splice_limbs (by omega)]
        obtain ⟨hr1, hr2⟩ := kn_done (by omega) (by omega) hs3 hV0' hUs hU0 hsm hgd' (hqz i (by omega)) (by omega) hval
        generalize hu3e : u2.set (i + n) 0 = u3 at *
        repeat' ((conv => whnf); first | refine ngo ?_ | refine VB.tt ?_ | refine VB.ff ?_ | refine VNew.keep ?_ | refine dgo ?_ | refine sgo ?_ | fail)
        conv => whnf
        rw [gx]
        repeat' ((conv => whnf); first | refine ngo ?_ | refine VB.tt ?_ | refine VB.ff ?_ | refine VNew.keep ?_ | refine dgo ?_ | refine sgo ?_ | fail)
        conv => whnf
        rw [g0]
        repeat' ((conv => whnf); first | refine ngo ?_ | refine VB.tt ?_ | refine VB.ff ?_ | refine VNew.keep ?_ | refine dgo ?_ | refine sgo ?_ | fail)
        conv => whnf
        rw [g6]
        repeat' ((conv => whnf); first | refine ngo ?_ | refine VB.tt ?_ | refine VB.ff ?_ | refine VNew.keep ?_ | refine dgo ?_ | refine sgo ?_ | fail)
        conv => whnf
        refine ⟨(i, u3, q.set i g'), ⟨by dsimp only; omega, by dsimp only; omega, hu3, by dsimp only; rw [List.length_set]; exact hql, okL_set hq _ (by omega), hr1, hr2, ?_⟩, by dsimp only; omega, ⟨⟨rfl, rfl, rfl, rfl, rfl, rfl, rfl, rfl, trivial⟩, ?_, rfl⟩⟩
        · intro k' hk'
          dsimp only at hk' ⊢
          rw [getD_set_ne' (by omega)]
          exact hqz k' (by omega)
        · show [_, _, AObj.cells _ _ (splice _ _ _)] = _
          rw [eo1, splice_limbs (by omega), splice_limbs (by omega), ek, Nat.zero_add, Nat.mul_one, hu3e]
          rfl
  · have : i = 0 := by omega
    subst this
    rw [List.drop_zero] at hud
    repeat' ((conv => whnf); first | refine ngo ?_ | refine VB.tt ?_ | refine VB.ff ?_ | refine VNew.keep ?_ | refine dgo ?_ | refine sgo ?_ | fail)
    conv => whnf
    exact ⟨(u, q), ⟨hul, hu, hql, hq, hud, hval⟩, ⟨⟨rfl, rfl, rfl, trivial⟩, rfl, rfl⟩⟩
end Go.Proofs.YtcdnonggajoghaaDoor


/- Contracts: long division, whole. -/
namespace Go.Proofs.YtcdnonggajoghaaDoor
open Go Go.RowKit
set_option linter.unusedVariables false
set_option linter.unusedSimpArgs false
set_option maxRecDepth 100000

theorem sc_limbs : ∀ (l : List Nat), AV.sc.scL (limbs l)
  | [] => trivial
  | _ :: l => ⟨trivial, sc_limbs l⟩
theorem natv_of {l : List Nat} (h : canon l) : natL l = natv (val l) := by rw [natv, dg_val h]

set_option maxHeartbeats 1000000 in
theorem divide_c {a b : List Nat} (ha : canon a) (hb : canon b) (hb0 : b ≠ []) (la : a.length < 10000000) (lb : b.length < 10000000) :
    VCall EE 51 [natL a, natL b] [] fun v H => Fz H 0 [] v (.tup [natv (val a / val b), natv (val a % val b)]) := by
  have hbl : 0 < b.length := List.length_pos_iff.2 hb0
  refine VCall.of_body true Tryd.func51 rfl (by decide) rfl ?_
  repeat' ((conv => whnf); first | refine ngo ?_ | refine VB.tt ?_ | refine VB.ff ?_ | refine VNew.keep ?_ | refine dgo ?_ | refine sgo ?_ | fail)
  conv => whnf
  refine VCall.isolate (order_c ha hb (by omega) (by omega)) ⟨low_natL 0 a, low_natL 0 b, trivial⟩ fun v0 H0 hz => ⟨_, .same hz trivial, ?_⟩
  repeat' ((conv => whnf); first | refine ngo ?_ | refine VB.tt ?_ | refine VB.ff ?_ | refine VNew.keep ?_ | refine dgo ?_ | refine sgo ?_ | fail)
  conv => whnf
  refine VB.dec (fun h => ?_) (fun h => ?_)
  · have hlt : val a < val b := by
      unfold cmpN at h
      split at h
      · assumption
      · split at h <;> simp at h
    repeat' ((conv => whnf); first | refine ngo ?_ | refine VB.tt ?_ | refine VB.ff ?_ | refine VNew.keep ?_ | refine dgo ?_ | refine sgo ?_ | fail)
    conv => whnf
    refine VCall.isolate (clone_c a (by omega)) ⟨low_natL 0 a, trivial⟩ fun v0 H0 hz => ⟨_, hz, ?_⟩
    repeat' ((conv => whnf); first | refine ngo ?_ | refine VB.tt ?_ | refine VB.ff ?_ | refine VNew.keep ?_ | refine dgo ?_ | refine sgo ?_ | fail)
    conv => whnf
    rw [Nat.div_eq_of_lt hlt, Nat.mod_eq_of_lt hlt, ← natv_of ha]
    exact .tup (.cons (by rw [natv, dg_zero]; exact .nsl) (.cons (.same rfl (low_natL 0 _)) .nil))
  · have hge : val b ≤ val a := by
      unfold cmpN at h
      split at h
      · exact absurd (show (-1 : Int) < 0 by decide) h
      · omega
    repeat' ((conv => whnf); first | refine ngo ?_ | refine VB.tt ?_ | refine VB.ff ?_ | refine VNew.keep ?_ | refine dgo ?_ | refine sgo ?_ | fail)
    conv => whnf
    refine VB.eq (fun h1 => ?_) (fun h1 => ?_)
    · obtain ⟨d, rfl⟩ : ∃ d, b = [d] := List.length_eq_one_iff.1 (by omega)
      have hd : d < BB := hb.1 d (by simp)
      have hd0 : 0 < d := Nat.pos_of_ne_zero (hb.2 d rfl)
      have hvd : val [d] = d := by simp [val]
      have g1 : getInt (List.drop ((0 : Int).toNat * 1) (limbs [d])) = (d : Int) := rfl
      have hBB : BB = 1000000000 := rfl
      repeat' ((conv => whnf); first | refine ngo ?_ | refine VB.tt ?_ | refine VB.ff ?_ | refine VNew.keep ?_ | refine dgo ?_ | refine sgo ?_ | fail)
      conv => whnf
      rw [g1]
      repeat' ((conv => whnf); first | refine ngo ?_ | refine VB.tt ?_ | refine VB.ff ?_ | refine VNew.keep ?_ | refine dgo ?_ | refine sgo ?_ | fail)
      conv => whnf
      refine VCall.isolate (small_own ha.1 (by omega) hd0 hd) ⟨low_natL 0 a, trivial, trivial⟩ fun v0 H0 hz => ?_
      obtain ⟨l, hl1, hl2, rfl, rfl⟩ := hz
      refine ⟨.tup [natv (val a / d), .int .u64 ((val a % d : Nat) : Int)], .tup (.cons (.nat (Nat.zero_le _) (by simp) rfl (by rw [Nat.mul_one, ← hl2, limbs_take, take_dg hl1]) rfl) (.cons (.same rfl trivial) .nil)), ?_⟩
      repeat' ((conv => whnf); first | refine ngo ?_ | refine VB.tt ?_ | refine VB.ff ?_ | refine VNew.keep ?_ | refine dgo ?_ | refine sgo ?_ | fail)
      conv => whnf
      refine VCall.isolate (of_c (val a % d) (Nat.lt_trans (Nat.mod_lt _ hd0) (by omega))) ⟨trivial, trivial⟩ fun v0 H0 hz => ⟨_, hz, ?_⟩
      repeat' ((conv => whnf); first | refine ngo ?_ | refine VB.tt ?_ | refine VB.ff ?_ | refine VNew.keep ?_ | refine dgo ?_ | refine sgo ?_ | fail)
      conv => whnf
      rw [hvd]
      exact .same rfl ⟨low_natL 0 _, low_natL 0 _, trivial⟩
    · have hn2 : 2 ≤ b.length := by omega
      have hBB : BB = 1000000000 := rfl
      have eb : ((b.length : Int) - 1).toNat = b.length - 1 := by omega
      have hbt := getD_lt hb.1 (b.length - 1)
      have hbt0 : b.getD (b.length - 1) 0 ≠ 0 := hb.2 _ (by rw [List.getLast?_eq_getElem?, List.getD_eq_getElem?_getD, List.getElem?_eq_getElem (by omega)]; rfl)
      have g1 : getInt (List.drop (((b.length : Int) - 1).toNat * 1) (limbs b)) = ((b.getD (b.length - 1) 0 : Nat) : Int) := by rw [eb, Nat.mul_one, getInt_limbs]
      generalize b.getD (b.length - 1) 0 = bt at *
      have hf1 : 1 ≤ BB / (bt + 1) := (Nat.le_div_iff_mul_le (by omega)).2 (by omega)
      have hf2 : BB / (bt + 1) < BB := Nat.div_lt_self (by decide) (by omega)
      have g2 : (1000000000 : Int).tdiv ((bt : Int) + 1) = ((BB / (bt + 1) : Nat) : Int) := rfl
      generalize BB / (bt + 1) = f at *
      repeat' ((conv => whnf); first | refine ngo ?_ | refine VB.tt ?_ | refine VB.ff ?_ | refine VNew.keep ?_ | refine dgo ?_ | refine sgo ?_ | fail)
      conv => whnf
      rw [g1]
      repeat' ((conv => whnf); first | refine ngo ?_ | refine VB.tt ?_ | refine VB.ff ?_ | refine VNew.keep ?_ | refine dgo ?_ | refine sgo ?_ | fail)
      conv => whnf
      rw [g2]
      repeat' ((conv => whnf); first | refine ngo ?_ | refine VB.tt ?_ | refine VB.ff ?_ | refine VNew.keep ?_ | refine dgo ?_ | refine sgo ?_ | fail)
      conv => whnf
      refine VCall.isolate (of_c f (by omega)) ⟨trivial, trivial⟩ fun v0 H0 hz => ⟨_, hz, ?_⟩
      repeat' ((conv => whnf); first | refine ngo ?_ | refine VB.tt ?_ | refine VB.ff ?_ | refine VNew.keep ?_ | refine dgo ?_ | refine sgo ?_ | fail)
      conv => whnf
      have hfl : (dg f).length ≤ 1 := length_dg_lt (by simpa using hf2)
      refine VCall.own (product_own ha.1 (okL_dg f) (by omega) (by omega)) ⟨low_natL 0 a, low_natL 0 _, trivial⟩ fun v0 H0 hz => ?_
      obtain ⟨l, hl1, hl2, rfl, rfl⟩ := hz
      rw [val_dg] at *
      refine ⟨fun o ho => by rw [List.mem_singleton.1 ho]; exact low_limbs 0 l, _, .osl, ?_⟩
      generalize hA : val a * f = A at *
      have hAl : (dg A).length ≤ a.length + 1 := by
        refine length_dg_lt ?_
        rw [← hA, Nat.pow_succ]
        exact Nat.mul_lt_mul'' (val_lt ha.1) hf2
      have hlA : (dg A).length ≤ l.length := by rw [← hl2]; exact dg_length_le hl1
      have hu : List.take ((dg A).length * 1) (limbs l) ++ [AV.int .u32 0, AV.int .u32 0] = limbs (dg A ++ [0, 0]) := by
        rw [Nat.mul_one, limbs_take, ← hl2, take_dg hl1, limbs_append]
        rfl
      repeat' ((conv => whnf); first | refine ngo ?_ | refine VB.tt ?_ | refine VB.ff ?_ | refine VNew.keep ?_ | refine dgo ?_ | refine sgo ?_ | fail)
      conv => whnf
      show VCall EE _ _ [AObj.cells 1 30 (List.take ((dg A).length * 1) (limbs l) ++ [AV.int .u32 0, AV.int .u32 0]), AObj.cells 0 30 [AV.int .u32 0, AV.int .u32 0]] _
      rw [hu]
      refine VCall.isolate (of_c f (by omega)) ⟨trivial, trivial⟩ fun v0 H0 hz => ⟨_, hz, ?_⟩
      repeat' ((conv => whnf); first | refine ngo ?_ | refine VB.tt ?_ | refine VB.ff ?_ | refine VNew.keep ?_ | refine dgo ?_ | refine sgo ?_ | fail)
      conv => whnf
      refine VCall.isolate (product_own hb.1 (okL_dg f) (by omega) (by omega)) ⟨low_natL 0 b, low_natL 0 _, trivial⟩ fun v0 H0 hz => ?_
      obtain ⟨l', hl1', hl2', rfl, rfl⟩ := hz
      rw [val_dg] at *
      obtain ⟨V, hV⟩ : ∃ V, V = val b * f := ⟨_, rfl⟩
      obtain ⟨n, hnn⟩ : ∃ n, n = (dg V).length := ⟨_, rfl⟩
      refine ⟨.dsl (limbs (dg V)) n, by rw [hnn, hV]; exact .nat (Nat.zero_le _) (by simp) rfl (by rw [Nat.mul_one, ← hl2', limbs_take, take_dg hl1']) rfl, ?_⟩
      clear hl1' hl2' hz hu hl1 hl2 hlA
      have hVb : val b ≤ V := by rw [hV]; exact Nat.le_mul_of_pos_right _ hf1
      have hVA : V ≤ A := by rw [hV, ← hA]; exact Nat.mul_le_mul_right _ hge
      have hnb : b.length ≤ n := by have := dg_length_mono hVb; rwa [dg_val hb, ← hnn] at this
      have hnA : n ≤ (dg A).length := by rw [hnn]; exact dg_length_mono hVA
      have hVc := canon_dg V
      have hVv := val_dg V
      have en1 : ((n : Int) - 1).toNat = n - 1 := by omega
      have en2 : ((n : Int) - 2).toNat = n - 2 := by omega
      have hv1 := getD_lt hVc.1 (n - 1)
      have hv2 := getD_lt hVc.1 (n - 2)
      have hv10 : (dg V).getD (n - 1) 0 ≠ 0 := hVc.2 _ (by rw [List.getLast?_eq_getElem?, List.getD_eq_getElem?_getD, ← hnn, List.getElem?_eq_getElem (by omega)]; rfl)
      have g3 : getInt (List.drop (((n : Int) - 1).toNat * 1) (limbs (dg V))) = (((dg V).getD (n - 1) 0 : Nat) : Int) := by rw [en1, Nat.mul_one, getInt_limbs]
      have g4 : getInt (List.drop (((n : Int) - 2).toNat * 1) (limbs (dg V))) = (((dg V).getD (n - 2) 0 : Nat) : Int) := by rw [en2, Nat.mul_one, getInt_limbs]
      have hsp := two_split hnn.symm (by omega)
      rw [hVv] at hsp
      have hv3 : val ((dg V).take (n - 2)) < BB ^ (n - 2) := by
        have := val_lt (hVc.1.take (n - 2))
        rwa [List.length_take, Nat.min_eq_left (by omega)] at this
      generalize hv1e : (dg V).getD (n - 1) 0 = v1 at *
      generalize hv2e : (dg V).getD (n - 2) 0 = v2 at *
      generalize hv3e : val ((dg V).take (n - 2)) = v3 at *
      generalize hnA' : (dg A).length = nA at *
      repeat' ((conv => whnf); first | refine ngo ?_ | refine VB.tt ?_ | refine VB.ff ?_ | refine VNew.keep ?_ | refine dgo ?_ | refine sgo ?_ | fail)
      conv => whnf
      rw [g3]
      repeat' ((conv => whnf); first | refine ngo ?_ | refine VB.tt ?_ | refine VB.ff ?_ | refine VNew.keep ?_ | refine dgo ?_ | refine sgo ?_ | fail)
      conv => whnf
      rw [g4]
      repeat' ((conv => whnf); first | refine ngo ?_ | refine VB.tt ?_ | refine VB.ff ?_ | refine VNew.keep ?_ | refine dgo ?_ | refine sgo ?_ | fail)
      conv => whnf
      clear g1 g2 g3 g4 hz
      obtain ⟨lq, hlq⟩ : ∃ lq, lq + n = nA + 2 := ⟨nA + 2 - n, by omega⟩
      have hP : 0 < BB ^ (n - 2) := Nat.pow_pos (by decide)
      have hVpow : V < BB ^ n := by rw [← hVv, hnn]; exact val_lt hVc.1
      have hV0 : BB ^ (n - 2) ≤ V := by
        have h0 : 0 < v1 * BB := Nat.mul_pos (by omega) (by decide)
        have h1 : 1 * BB ^ (n - 2) ≤ (v1 * BB + v2) * BB ^ (n - 2) := Nat.mul_le_mul_right _ (by omega)
        omega
      have hc : DivC f n nA lq V v1 v2 v3 A := ⟨hf1, hf2, by omega, hnn, hnA, by omega, hlq, hv1, hv10, hv2, hsp, hv3, by omega, hVpow⟩
      refine VLoop.use (digit_loop (u0 := dg A ++ [0, 0]) (q0 := List.replicate lq 0) hc (by simp [hnA']) (okL_append.2 ⟨okL_dg A, by simp [okL]⟩) (by simp) (okL_zeros _) ?_ ?_ ?_) ?_ ?_
      · rw [val_drop (okL_append.2 ⟨okL_dg A, by simp [okL]⟩), val_append, val_dg]
        simp only [val, Nat.mul_zero, Nat.add_zero]
        refine Nat.lt_of_lt_of_le (Nat.div_lt_of_lt_mul ?_) hV0
        rw [← Nat.pow_add, show lq + (n - 2) = nA by omega, ← hnA']
        exact lt_of_length_dg A
      · rw [val_append, val_dg, val_zeros]
        simp [val]
      · intro k hk
        rw [List.getD_eq_getElem?_getD, List.getElem?_replicate]
        split <;> rfl
      · refine ⟨⟨?_, rfl, ?_, rfl, rfl, rfl, rfl, ?_, trivial⟩, ?_, rfl⟩
        · simp [lk]; omega
        · simp [lk]
        · simp [lk]; omega
        · show [_, _, AObj.cells 0 _ (reps _ _)] = _
          rw [show (((nA + 2 : Nat) : Int) - (n : Int)).toNat = lq by omega]
          exact congrArg (fun x => [AObj.cells 1 30 (limbs (dg A ++ [0, 0])), .cells 0 30 [AV.int .u32 0, AV.int .u32 0], AObj.cells 0 30 x]) (limbs_zeros _)
      rintro ⟨u, q⟩ ⟨hul, hu, hql, hq, hud, hval⟩
      dsimp only at hul hu hql hq hud hval ⊢
      have hV0' : 0 < V := hc.hV0
      have hquo : val q = val a / val b := by
        have h1 : A / V = val q := by rw [← hval, Nat.mul_comm, Nat.add_mul_div_right _ _ hV0', Nat.div_eq_of_lt hud, Nat.zero_add]
        rw [← h1, ← hA, hV, Nat.mul_div_mul_right _ _ (by omega)]
      have hrem : val u = val a % val b * f := by
        have h1 : A % V = val u := by rw [← hval, Nat.mul_comm, Nat.add_mul_mod_self_right, Nat.mod_eq_of_lt hud]
        rw [← h1, ← hA, hV, Nat.mul_mod_mul_right]
      repeat' ((conv => whnf); first | refine ngo ?_ | refine VB.tt ?_ | refine VB.ff ?_ | refine VNew.keep ?_ | refine dgo ?_ | refine sgo ?_ | fail)
      conv => whnf
      have ht := trim_own0 (R := [.cells 0 30 [AV.int .u32 0, AV.int .u32 0], .cells 0 30 (limbs q)]) (ver := 1) (e := 30) hu (by omega)
      rw [hul] at ht
      refine ht.mono fun v H' hq' => ?_
      obtain ⟨rfl, rfl⟩ := hq'
      repeat' ((conv => whnf); first | refine ngo ?_ | refine VB.tt ?_ | refine VB.ff ?_ | refine VNew.keep ?_ | refine dgo ?_ | refine sgo ?_ | fail)
      conv => whnf
      have hul2 : (dg (val u)).length ≤ u.length := dg_length_le hu
      refine VCall.lendF (args' := [natL (dg (val u)), .int .u64 f]) (small_own (okL_dg _) (by omega) (by omega) hf2) (.cons (.nat (Nat.zero_le _) (by simp) rfl (by rw [Nat.mul_one, limbs_take, take_dg hu]) rfl) (.cons (.same rfl trivial) .nil)) fun v0 H0 hz => ?_
      obtain ⟨l2, hl1, hl2, rfl, rfl⟩ := hz
      rw [val_dg] at hl2
      rw [val_dg]
      refine ⟨.tup [natv (val u / f), .int .u64 ((val u % f : Nat) : Int)], .two (.osl rfl (by rw [List.drop_zero, Nat.mul_one, ← hl2, limbs_take, take_dg hl1]) (sc_limbs _)) (.sc rfl trivial), ?_⟩
      repeat' ((conv => whnf); first | refine ngo ?_ | refine VB.tt ?_ | refine VB.ff ?_ | refine VNew.keep ?_ | refine dgo ?_ | refine sgo ?_ | fail)
      conv => whnf
      have ht := trim_own2 (x0 := .cells 1 30 (limbs u)) (x1 := .cells 0 30 [AV.int .u32 0, AV.int .u32 0]) (R := []) (ver := 0) (e := 30) hq (by omega)
      rw [hql] at ht
      refine ht.mono fun v H' hq' => ?_
      obtain ⟨rfl, rfl⟩ := hq'
      repeat' ((conv => whnf); first | refine ngo ?_ | refine VB.tt ?_ | refine VB.ff ?_ | refine VNew.keep ?_ | refine dgo ?_ | refine sgo ?_ | fail)
      conv => whnf
      rw [hrem, Nat.mul_div_cancel _ (by omega), ← hquo]
      exact .tup (.cons (.nat (Nat.zero_le _) (by simp) rfl (by rw [Nat.mul_one, limbs_take, take_dg hq]) rfl) (.cons (.same rfl (low_natL 0 _)) .nil))
end Go.Proofs.YtcdnonggajoghaaDoor


/- Contracts: lists alike, checks, common divisors. -/
namespace Go.Proofs.YtcdnonggajoghaaDoor
open Go Go.RowKit
set_option linter.unusedVariables false
set_option linter.unusedSimpArgs false
set_option maxRecDepth 100000

theorem natv_zero : natv 0 = .dsl [] 0 := by rw [natv, dg_zero]; rfl
theorem fz_nil0 {H : Heap} : Fz H 0 [] .nsl (natv 0) := by rw [natv_zero]; exact .nsl

def canonB (l : List Nat) : Bool := l.all (fun x => decide (x < BB)) && (l.getLast? != some 0)
theorem canonB_iff {l : List Nat} : canonB l = true ↔ canon l := by
  simp only [canonB, canon, okL, Bool.and_eq_true, List.all_eq_true, decide_eq_true_eq, bne_iff_ne, ne_eq]
  constructor
  · rintro ⟨h1, h2⟩
    exact ⟨h1, fun x hx h0 => h2 (by rw [hx, h0])⟩
  · rintro ⟨h1, h2⟩
    exact ⟨h1, fun h => h2 0 h rfl⟩
theorem canonB_false {l : List Nat} (h : ¬ canon l) : canonB l = false := by
  cases e : canonB l with
  | false => rfl
  | true => exact absurd (canonB_iff.1 e) h
def chk (l : List Nat) : Int := if 1024 < l.length then 4 else if canonB l then 0 else 3
theorem chk_zero {l : List Nat} (h : chk l = 0) : canon l ∧ l.length ≤ 1024 := by
  unfold chk at h
  split at h
  · cases h
  · split at h
    · rename_i h1 h2; exact ⟨canonB_iff.1 h2, by omega⟩
    · cases h
theorem chk_dg {n : Nat} (h : (dg n).length ≤ 1024) : chk (dg n) = 0 := by
  unfold chk
  rw [if_neg (by omega), if_pos (canonB_iff.2 (canon_dg n))]

theorem alike_c {a b : List Nat} (la : a.length < 1000000000) (lb : b.length < 1000000000) : VCall EE 11 [natL a, natL b] [] fun v H => v = .bool (decide (a = b)) := by
  refine VCall.of_body true Tryd.func11 rfl (by decide) rfl ?_
  repeat' ((conv => whnf); first | refine ngo ?_ | refine VB.tt ?_ | refine VB.ff ?_ | refine VNew.keep ?_ | refine dgo ?_ | refine sgo ?_ | fail)
  conv => whnf
  refine VB.ne (fun h => ?_) (fun h => ?_)
  · repeat' ((conv => whnf); first | refine ngo ?_ | refine VB.tt ?_ | refine VB.ff ?_ | refine VNew.keep ?_ | refine dgo ?_ | refine sgo ?_ | fail)
    conv => whnf
    rw [decide_eq_false (by rintro rfl; exact h rfl)]
  · repeat' ((conv => whnf); first | refine ngo ?_ | refine VB.tt ?_ | refine VB.ff ?_ | refine VNew.keep ?_ | refine dgo ?_ | refine sgo ?_ | fail)
    conv => whnf
    refine VLoop.ix true (fun i : Nat => ⟨[(0, natL a), (1, natL b), (5, .int .i64 i)], [], []⟩) (fun i => i ≤ a.length ∧ a.take i = b.take i) (fun i => a.length - i) 0 ⟨Nat.zero_le _, rfl⟩ ⟨⟨rfl, rfl, rfl, trivial⟩, rfl, rfl⟩ ?_
    rintro i ⟨hi, hd⟩
    repeat' ((conv => whnf); first | refine ngo ?_ | refine VB.tt ?_ | refine VB.ff ?_ | refine VNew.keep ?_ | refine dgo ?_ | refine sgo ?_ | fail)
    conv => whnf
    refine VB.dec (fun h => ?_) (fun h => ?_)
    · repeat' ((conv => whnf); first | refine ngo ?_ | refine VB.tt ?_ | refine VB.ff ?_ | refine VNew.keep ?_ | refine dgo ?_ | refine sgo ?_ | fail)
      conv => whnf
      rw [Int.toNat_natCast, Nat.mul_one, getInt_limbs, getInt_limbs]
      refine VB.ne (fun h1 => ?_) (fun h1 => ?_)
      · repeat' ((conv => whnf); first | refine ngo ?_ | refine VB.tt ?_ | refine VB.ff ?_ | refine VNew.keep ?_ | refine dgo ?_ | refine sgo ?_ | fail)
        conv => whnf
        rw [decide_eq_false (by rintro rfl; exact h1 rfl)]
      · repeat' ((conv => whnf); first | refine ngo ?_ | refine VB.tt ?_ | refine VB.ff ?_ | refine VNew.keep ?_ | refine dgo ?_ | refine sgo ?_ | fail)
        conv => whnf
        refine ⟨i + 1, ⟨by omega, ?_⟩, by omega, ⟨⟨rfl, rfl, by simp [lk], trivial⟩, rfl, rfl⟩⟩
        have h2 : a.getD i 0 = b.getD i 0 := Int.ofNat.inj h1
        simp [List.getD_eq_getElem?_getD, show i < a.length by omega, show i < b.length by omega] at h2
        rw [List.take_succ_eq_append_getElem (by omega), List.take_succ_eq_append_getElem (by omega), hd, h2]
    · have : i = a.length := by omega
      subst this
      repeat' ((conv => whnf); first | refine ngo ?_ | refine VB.tt ?_ | refine VB.ff ?_ | refine VNew.keep ?_ | refine dgo ?_ | refine sgo ?_ | fail)
      conv => whnf
      rw [List.take_length, List.take_of_length_le (by omega)] at hd
      rw [decide_eq_true hd]

theorem check1_c (x : Nat) : VCall EE 35 [.int .u32 x] [] fun v H => v = .bool (decide (BB ≤ x)) := by
  refine VCall.of_body true Tryd.func35 rfl (by decide) rfl ?_
  repeat' ((conv => whnf); first | refine ngo ?_ | refine VB.tt ?_ | refine VB.ff ?_ | refine VNew.keep ?_ | refine dgo ?_ | refine sgo ?_ | fail)
  conv => whnf
  have : decide ((x : Int) ≥ 1000000000) = decide (BB ≤ x) := by
    have hBB : BB = 1000000000 := rfl
    by_cases h : BB ≤ x
    · rw [decide_eq_true h, decide_eq_true (by omega)]
    · rw [decide_eq_false h, decide_eq_false (by omega)]
  rw [this]

theorem indexf_c {l : List Nat} (ll : l.length < 1000000000) : VCall EE 58 [natL l, .fn (.func 35) [] []] [] fun v H => ∃ r : Int, v = .int .i64 r ∧ (r ≥ 0 ↔ ¬ okL l) := by
  refine VCall.of_body true Tryd.func58 rfl (by decide) rfl ?_
  repeat' ((conv => whnf); first | refine ngo ?_ | refine VB.tt ?_ | refine VB.ff ?_ | refine VNew.keep ?_ | refine dgo ?_ | refine sgo ?_ | fail)
  conv => whnf
  refine VLoop.ix true (fun i : Nat => ⟨[(0, natL l), (1, .fn (.func 35) [] []), (7, .int .i64 l.length), (8, .int .i64 i)], [], []⟩) (fun i => i ≤ l.length ∧ okL (l.take i)) (fun i => l.length - i) 0 ⟨Nat.zero_le _, by simp [okL]⟩ ⟨⟨rfl, rfl, rfl, rfl, trivial⟩, rfl, rfl⟩ ?_
  rintro i ⟨hi, hd⟩
  repeat' ((conv => whnf); first | refine ngo ?_ | refine VB.tt ?_ | refine VB.ff ?_ | refine VNew.keep ?_ | refine dgo ?_ | refine sgo ?_ | fail)
  conv => whnf
  refine VB.dec (fun h => ?_) (fun h => ?_)
  · repeat' ((conv => whnf); first | refine ngo ?_ | refine VB.tt ?_ | refine VB.ff ?_ | refine VNew.keep ?_ | refine dgo ?_ | refine sgo ?_ | fail)
    conv => whnf
    rw [Int.toNat_natCast, Nat.mul_one, getInt_limbs]
    refine VCall.s (check1_c _) ?_
    repeat' ((conv => whnf); first | refine ngo ?_ | refine VB.tt ?_ | refine VB.ff ?_ | refine VNew.keep ?_ | refine dgo ?_ | refine sgo ?_ | fail)
    conv => whnf
    have hx : l.getD i 0 ∈ l := by
      simp [List.getD_eq_getElem?_getD, show i < l.length by omega]
    refine VB.dec (fun h1 => ?_) (fun h1 => ?_)
    · repeat' ((conv => whnf); first | refine ngo ?_ | refine VB.tt ?_ | refine VB.ff ?_ | refine VNew.keep ?_ | refine dgo ?_ | refine sgo ?_ | fail)
      conv => whnf
      exact ⟨i, rfl, fun _ hok => absurd (hok _ hx) (by omega), fun _ => by omega⟩
    · repeat' ((conv => whnf); first | refine ngo ?_ | refine VB.tt ?_ | refine VB.ff ?_ | refine VNew.keep ?_ | refine dgo ?_ | refine sgo ?_ | fail)
      conv => whnf
      refine ⟨i + 1, ⟨by omega, ?_⟩, by omega, ⟨⟨rfl, rfl, rfl, by simp [lk], trivial⟩, rfl, rfl⟩⟩
      rw [List.take_succ_eq_append_getElem (by omega)]
      refine okL_append.2 ⟨hd, fun x hx => ?_⟩
      simp [List.getD_eq_getElem?_getD, show i < l.length by omega] at h1
      rw [List.mem_singleton.1 hx]
      exact h1
  · have : i = l.length := by omega
    subst this
    rw [List.take_length] at hd
    repeat' ((conv => whnf); first | refine ngo ?_ | refine VB.tt ?_ | refine VB.ff ?_ | refine VNew.keep ?_ | refine dgo ?_ | refine sgo ?_ | fail)
    conv => whnf
    exact ⟨_, rfl, fun h => absurd h (by decide), fun h => absurd hd h⟩

theorem containsf_c {l : List Nat} (ll : l.length < 1000000000) : VCall EE 34 [natL l, .fn (.func 35) [] []] [] fun v H => v = .bool (!l.all (fun x => decide (x < BB))) := by
  refine VCall.of_body true Tryd.func34 rfl (by decide) rfl ?_
  repeat' ((conv => whnf); first | refine ngo ?_ | refine VB.tt ?_ | refine VB.ff ?_ | refine VNew.keep ?_ | refine dgo ?_ | refine sgo ?_ | fail)
  conv => whnf
  refine VCall.isolate (indexf_c ll) (by repeat' (first | exact trivial | exact low_natL 0 _ | exact low_limbs 0 _ | refine And.intro ?_ ?_ | fail)) fun v0 H0 hz => ?_
  obtain ⟨r, rfl, hr⟩ := hz
  refine ⟨_, .same rfl trivial, ?_⟩
  repeat' ((conv => whnf); first | refine ngo ?_ | refine VB.tt ?_ | refine VB.ff ?_ | refine VNew.keep ?_ | refine dgo ?_ | refine sgo ?_ | fail)
  conv => whnf
  congr 1
  by_cases h : okL l
  · rw [decide_eq_false (fun h1 => (hr.1 h1) h), List.all_eq_true.2 (fun x hx => decide_eq_true (h x hx))]
    rfl
  · rw [decide_eq_true (hr.2 h)]
    cases e : l.all (fun x => decide (x < BB)) with
    | false => rfl
    | true => exact absurd (fun x hx => of_decide_eq_true (List.all_eq_true.1 e x hx)) h

theorem check_c (l : List Nat) (ll : l.length < 1000000000000000000) : VCall EE 12 [natL l] [] fun v H => v = .int .i64 (chk l) := by
  refine VCall.of_body true Tryd.func12 rfl (by decide) rfl ?_
  repeat' ((conv => whnf); first | refine ngo ?_ | refine VB.tt ?_ | refine VB.ff ?_ | refine VNew.keep ?_ | refine dgo ?_ | refine sgo ?_ | fail)
  conv => whnf
  refine VB.dec (fun h => ?_) (fun h => ?_)
  · repeat' ((conv => whnf); first | refine ngo ?_ | refine VB.tt ?_ | refine VB.ff ?_ | refine VNew.keep ?_ | refine dgo ?_ | refine sgo ?_ | fail)
    conv => whnf
    rw [chk, if_pos (by omega)]
  · repeat' ((conv => whnf); first | refine ngo ?_ | refine VB.tt ?_ | refine VB.ff ?_ | refine VNew.keep ?_ | refine dgo ?_ | refine sgo ?_ | fail)
    conv => whnf
    refine VCall.s (containsf_c (by omega)) ?_
    repeat' ((conv => whnf); first | refine ngo ?_ | refine VB.tt ?_ | refine VB.ff ?_ | refine VNew.keep ?_ | refine dgo ?_ | refine sgo ?_ | fail)
    conv => whnf
    have hc : chk l = if canonB l then 0 else 3 := by rw [chk, if_neg (by omega)]
    unfold canonB at hc
    cases e : l.all (fun x => decide (x < BB)) with
    | false =>
      rw [e] at hc
      repeat' ((conv => whnf); first | refine ngo ?_ | refine VB.tt ?_ | refine VB.ff ?_ | refine VNew.keep ?_ | refine dgo ?_ | refine sgo ?_ | fail)
      conv => whnf
      rw [hc]
      rfl
    | true =>
      rw [e] at hc
      repeat' ((conv => whnf); first | refine ngo ?_ | refine VB.tt ?_ | refine VB.ff ?_ | refine VNew.keep ?_ | refine dgo ?_ | refine sgo ?_ | fail)
      conv => whnf
      by_cases h0 : (l.length : Int) > 0
      · rw [decide_eq_true h0]
        have el : ((l.length : Int) - 1).toNat = l.length - 1 := by omega
        have hl : l.getLast? = some (l.getD (l.length - 1) 0) := by
          rw [List.getLast?_eq_getElem?, List.getD_eq_getElem?_getD, List.getElem?_eq_getElem (by omega)]
          rfl
        rw [hl] at hc
        repeat' ((conv => whnf); first | refine ngo ?_ | refine VB.tt ?_ | refine VB.ff ?_ | refine VNew.keep ?_ | refine dgo ?_ | refine sgo ?_ | fail)
        conv => whnf
        rw [el, Nat.mul_one, getInt_limbs]
        generalize l.getD (l.length - 1) 0 = x at *
        refine VB.eq (fun h1 => ?_) (fun h1 => ?_)
        · have h1 : x = 0 := by omega
          subst h1
          repeat' ((conv => whnf); first | refine ngo ?_ | refine VB.tt ?_ | refine VB.ff ?_ | refine VNew.keep ?_ | refine dgo ?_ | refine sgo ?_ | fail)
          conv => whnf
          rw [hc]
          rfl
        · have h1 : x ≠ 0 := by omega
          repeat' ((conv => whnf); first | refine ngo ?_ | refine VB.tt ?_ | refine VB.ff ?_ | refine VNew.keep ?_ | refine dgo ?_ | refine sgo ?_ | fail)
          conv => whnf
          rw [hc]
          simp [h1]
      · rw [decide_eq_false h0]
        have : l = [] := List.length_eq_zero_iff.1 (by omega)
        subst this
        repeat' ((conv => whnf); first | refine ngo ?_ | refine VB.tt ?_ | refine VB.ff ?_ | refine VNew.keep ?_ | refine dgo ?_ | refine sgo ?_ | fail)
        conv => whnf
        rfl

def both2 (a b : List Nat) : Int := if chk a = 0 then chk b else chk a
theorem both2_zero {a b : List Nat} (h : both2 a b = 0) : chk a = 0 ∧ chk b = 0 := by
  unfold both2 at h
  split at h
  · exact ⟨by assumption, h⟩
  · exact absurd h (by assumption)

theorem checked_c (a b : List Nat) (la : a.length < 1000000000000000000) (lb : b.length < 1000000000000000000) : VCall EE 38 [.dsl [natL a, natL b] 2] [] fun v H => v = .int .i64 (both2 a b) := by
  refine VCall.of_body true Tryd.func38 rfl (by decide) rfl ?_
  repeat' ((conv => whnf); first | refine ngo ?_ | refine VB.tt ?_ | refine VB.ff ?_ | refine VNew.keep ?_ | refine dgo ?_ | refine sgo ?_ | fail)
  conv => whnf
  refine VLoop.ix true (fun i : Nat => ⟨[(6, .dsl [natL a, natL b] 2), (7, .int .i64 2), (8, .int .i64 i)], [], []⟩) (fun i => i ≤ 2 ∧ (1 ≤ i → chk a = 0) ∧ (2 ≤ i → chk b = 0)) (fun i => 2 - i) 0 ⟨by decide, fun h => by omega, fun h => by omega⟩ ⟨⟨rfl, rfl, rfl, trivial⟩, rfl, rfl⟩ ?_
  rintro i ⟨hi, h1, h2⟩
  have h3 : i = 0 ∨ i = 1 ∨ i = 2 := by omega
  rcases h3 with rfl | rfl | rfl
  · repeat' ((conv => whnf); first | refine ngo ?_ | refine VB.tt ?_ | refine VB.ff ?_ | refine VNew.keep ?_ | refine dgo ?_ | refine sgo ?_ | fail)
    conv => whnf
    refine VCall.s (check_c a la) ?_
    repeat' ((conv => whnf); first | refine ngo ?_ | refine VB.tt ?_ | refine VB.ff ?_ | refine VNew.keep ?_ | refine dgo ?_ | refine sgo ?_ | fail)
    conv => whnf
    refine VB.ne (fun h => ?_) (fun h => ?_)
    · repeat' ((conv => whnf); first | refine ngo ?_ | refine VB.tt ?_ | refine VB.ff ?_ | refine VNew.keep ?_ | refine dgo ?_ | refine sgo ?_ | fail)
      conv => whnf
      rw [both2, if_neg h]
    · repeat' ((conv => whnf); first | refine ngo ?_ | refine VB.tt ?_ | refine VB.ff ?_ | refine VNew.keep ?_ | refine dgo ?_ | refine sgo ?_ | fail)
      conv => whnf
      exact ⟨1, ⟨by decide, fun _ => h, fun h => by omega⟩, by decide, ⟨⟨rfl, rfl, rfl, trivial⟩, rfl, rfl⟩⟩
  · repeat' ((conv => whnf); first | refine ngo ?_ | refine VB.tt ?_ | refine VB.ff ?_ | refine VNew.keep ?_ | refine dgo ?_ | refine sgo ?_ | fail)
    conv => whnf
    refine VCall.s (check_c b lb) ?_
    repeat' ((conv => whnf); first | refine ngo ?_ | refine VB.tt ?_ | refine VB.ff ?_ | refine VNew.keep ?_ | refine dgo ?_ | refine sgo ?_ | fail)
    conv => whnf
    refine VB.ne (fun h => ?_) (fun h => ?_)
    · repeat' ((conv => whnf); first | refine ngo ?_ | refine VB.tt ?_ | refine VB.ff ?_ | refine VNew.keep ?_ | refine dgo ?_ | refine sgo ?_ | fail)
      conv => whnf
      rw [both2, if_pos (h1 (by decide))]
    · repeat' ((conv => whnf); first | refine ngo ?_ | refine VB.tt ?_ | refine VB.ff ?_ | refine VNew.keep ?_ | refine dgo ?_ | refine sgo ?_ | fail)
      conv => whnf
      exact ⟨2, ⟨by decide, fun _ => h1 (by decide), fun _ => h⟩, by decide, ⟨⟨rfl, rfl, rfl, trivial⟩, rfl, rfl⟩⟩
  · repeat' ((conv => whnf); first | refine ngo ?_ | refine VB.tt ?_ | refine VB.ff ?_ | refine VNew.keep ?_ | refine dgo ?_ | refine sgo ?_ | fail)
    conv => whnf
    rw [both2, if_pos (h1 (by decide)), h2 (by decide)]

/-- Results of two numbers: a number and an error. -/
def res2 (a b : List Nat) (n : Nat) (e : Int) : AV := .tup [natv (if both2 a b = 0 then n else 0), .int .i64 (if both2 a b = 0 then e else both2 a b)]

theorem with_c {a b : List Nat} {g : FuncId} {n : Nat} {e : Int} (la : a.length < 1000000000000000000) (lb : b.length < 1000000000000000000) (hg : both2 a b = 0 → VCall EE g [natL a, natL b] [] fun v H => Fz H 0 [] v (.tup [natv n, .int .i64 e])) :
    VCall EE 42 [natL a, natL b, .fn (.func g) [] []] [] fun v H => Fz H 0 [] v (res2 a b n e) := by
  refine VCall.of_body true Tryd.func42 rfl (by decide) rfl ?_
  repeat' ((conv => whnf); first | refine ngo ?_ | refine VB.tt ?_ | refine VB.ff ?_ | refine dgo ?_ | refine sgo ?_ | fail)
  conv => whnf
  refine VNew.dat (cs' := [natL a, natL b]) rfl rfl ?_
  repeat' ((conv => whnf); first | refine ngo ?_ | refine VB.tt ?_ | refine VB.ff ?_ | refine VNew.keep ?_ | refine dgo ?_ | refine sgo ?_ | fail)
  conv => whnf
  refine VCall.s (checked_c a b la lb) ?_
  repeat' ((conv => whnf); first | refine ngo ?_ | refine VB.tt ?_ | refine VB.ff ?_ | refine VNew.keep ?_ | refine dgo ?_ | refine sgo ?_ | fail)
  conv => whnf
  refine VB.ne (fun h => ?_) (fun h => ?_)
  · repeat' ((conv => whnf); first | refine ngo ?_ | refine VB.tt ?_ | refine VB.ff ?_ | refine VNew.keep ?_ | refine dgo ?_ | refine sgo ?_ | fail)
    conv => whnf
    rw [res2, if_neg h, if_neg h]
    repeat' (first | exact fz_nil0 | exact Fz.nsl | exact Fz.same rfl (by repeat' (first | exact trivial | exact low_natL 0 _ | exact low_limbs 0 _ | refine And.intro ?_ ?_ | fail)) | refine Fz.tup ?_ | refine FzL.cons ?_ ?_ | exact FzL.nil | fail)
  · repeat' ((conv => whnf); first | refine ngo ?_ | refine VB.tt ?_ | refine VB.ff ?_ | refine VNew.keep ?_ | refine dgo ?_ | refine sgo ?_ | fail)
    conv => whnf
    refine VCall.i (hg h) ?_
    repeat' ((conv => whnf); first | refine ngo ?_ | refine VB.tt ?_ | refine VB.ff ?_ | refine VNew.keep ?_ | refine dgo ?_ | refine sgo ?_ | fail)
    conv => whnf
    rw [res2, if_pos h, if_pos h]
    repeat' (first | exact fz_nil0 | exact Fz.nsl | exact Fz.same rfl (by repeat' (first | exact trivial | exact low_natL 0 _ | exact low_limbs 0 _ | refine And.intro ?_ ?_ | fail)) | refine Fz.tup ?_ | refine FzL.cons ?_ ?_ | exact FzL.nil | fail)

theorem fits_c {n : Nat} (hn : (dg n).length < 1000000000000000000) : VCall EE 44 [natv n] [] fun v H => Fz H 0 [] v (.tup [natv (if 1024 < (dg n).length then 0 else n), .int .i64 (if 1024 < (dg n).length then 5 else 0)]) := by
  refine VCall.of_body true Tryd.func44 rfl (by decide) rfl ?_
  repeat' ((conv => whnf); first | refine ngo ?_ | refine VB.tt ?_ | refine VB.ff ?_ | refine VNew.keep ?_ | refine dgo ?_ | refine sgo ?_ | fail)
  conv => whnf
  refine VB.dec (fun h => ?_) (fun h => ?_)
  · repeat' ((conv => whnf); first | refine ngo ?_ | refine VB.tt ?_ | refine VB.ff ?_ | refine VNew.keep ?_ | refine dgo ?_ | refine sgo ?_ | fail)
    conv => whnf
    rw [if_pos (by omega), if_pos (by omega)]
    repeat' (first | exact fz_nil0 | exact Fz.nsl | exact Fz.same rfl (by repeat' (first | exact trivial | exact low_natL 0 _ | exact low_limbs 0 _ | refine And.intro ?_ ?_ | fail)) | refine Fz.tup ?_ | refine FzL.cons ?_ ?_ | exact FzL.nil | fail)
  · repeat' ((conv => whnf); first | refine ngo ?_ | refine VB.tt ?_ | refine VB.ff ?_ | refine VNew.keep ?_ | refine dgo ?_ | refine sgo ?_ | fail)
    conv => whnf
    rw [if_neg (by omega), if_neg (by omega)]
    repeat' (first | exact fz_nil0 | exact Fz.nsl | exact Fz.same rfl (by repeat' (first | exact trivial | exact low_natL 0 _ | exact low_limbs 0 _ | refine And.intro ?_ ?_ | fail)) | refine Fz.tup ?_ | refine FzL.cons ?_ ?_ | exact FzL.nil | fail)

theorem divide_n {a b : Nat} (hb : b ≠ 0) (la : (dg a).length < 10000000) (lb : (dg b).length < 10000000) : VCall EE 51 [natv a, natv b] [] fun v H => Fz H 0 [] v (.tup [natv (a / b), natv (a % b)]) := by
  have := divide_c (canon_dg a) (canon_dg b) (fun h => hb (dg_eq_nil.1 h)) la lb
  rwa [val_dg, val_dg] at this
theorem product_n {a b : Nat} (la : (dg a).length < 10000000) (lb : (dg b).length < 10000000) : VCall EE 52 [natv a, natv b] [] fun v H => Fz H 0 [] v (natv (a * b)) := by
  refine (product_own (okL_dg a) (okL_dg b) (by omega) (by omega)).mono fun v H hz => ?_
  obtain ⟨l, hl1, hl2, rfl, rfl⟩ := hz
  rw [val_dg, val_dg] at *
  exact .nat (Nat.zero_le _) (by simp) rfl (by rw [Nat.mul_one, ← hl2, limbs_take, take_dg hl1]) rfl

theorem common_n {a b : Nat} (la : (dg a).length < 10000000) (lb : (dg b).length < 10000000) : VCall EE 49 [natv a, natv b] [] fun v H => Fz H 0 [] v (natv (Nat.gcd a b)) := by
  refine VCall.of_body true Tryd.func49 rfl (by decide) rfl ?_
  repeat' ((conv => whnf); first | refine ngo ?_ | refine VB.tt ?_ | refine VB.ff ?_ | refine VNew.keep ?_ | refine dgo ?_ | refine sgo ?_ | fail)
  conv => whnf
  refine VLoop.ix true (fun x : Nat × Nat => ⟨[(0, natv x.1), (1, natv x.2)], [], []⟩) (fun x => Nat.gcd x.1 x.2 = Nat.gcd a b ∧ (dg x.1).length < 10000000 ∧ (dg x.2).length < 10000000) (fun x => x.2) (a, b) ⟨rfl, la, lb⟩ ⟨⟨rfl, rfl, trivial⟩, rfl, rfl⟩ ?_
  rintro ⟨x, y⟩ ⟨hg, lx, ly⟩
  dsimp only at hg lx ly ⊢
  repeat' ((conv => whnf); first | refine ngo ?_ | refine VB.tt ?_ | refine VB.ff ?_ | refine VNew.keep ?_ | refine dgo ?_ | refine sgo ?_ | fail)
  conv => whnf
  refine VB.dec (fun h => ?_) (fun h => ?_)
  · have hy : y ≠ 0 := by rintro rfl; rw [dg_zero] at h; exact absurd h (by decide)
    repeat' ((conv => whnf); first | refine ngo ?_ | refine VB.tt ?_ | refine VB.ff ?_ | refine VNew.keep ?_ | refine dgo ?_ | refine sgo ?_ | fail)
    conv => whnf
    refine VCall.i (divide_n hy lx ly) ?_
    repeat' ((conv => whnf); first | refine ngo ?_ | refine VB.tt ?_ | refine VB.ff ?_ | refine VNew.keep ?_ | refine dgo ?_ | refine sgo ?_ | fail)
    conv => whnf
    refine ⟨(y, x % y), ⟨?_, ly, ?_⟩, Nat.mod_lt _ (by omega), ⟨⟨rfl, rfl, trivial⟩, rfl, rfl⟩⟩
    · dsimp only; rw [← hg, Nat.gcd_comm y, ← Nat.gcd_rec, Nat.gcd_comm]
    · dsimp only; exact Nat.lt_of_le_of_lt (dg_length_mono (Nat.le_of_lt (Nat.mod_lt _ (by omega)))) ly
  · have hy : y = 0 := by
      rcases Nat.eq_zero_or_pos y with h0 | h0
      · exact h0
      · have := pow_le_of_dg (n := y) (by omega)
        have h1 : (dg y).length ≠ 0 := fun e => by have := dg_eq_nil.1 (List.length_eq_zero_iff.1 e); omega
        omega
    subst hy
    rw [Nat.gcd_zero_right] at hg
    subst hg
    repeat' ((conv => whnf); first | refine ngo ?_ | refine VB.tt ?_ | refine VB.ff ?_ | refine VNew.keep ?_ | refine dgo ?_ | refine sgo ?_ | fail)
    conv => whnf
    refine VCall.i (clone_c _ (by omega)) ?_
    repeat' ((conv => whnf); first | refine ngo ?_ | refine VB.tt ?_ | refine VB.ff ?_ | refine VNew.keep ?_ | refine dgo ?_ | refine sgo ?_ | fail)
    conv => whnf
    repeat' (first | exact fz_nil0 | exact Fz.nsl | exact Fz.same rfl (by repeat' (first | exact trivial | exact low_natL 0 _ | exact low_limbs 0 _ | refine And.intro ?_ ?_ | fail)) | refine Fz.tup ?_ | refine FzL.cons ?_ ?_ | exact FzL.nil | fail)
end Go.Proofs.YtcdnonggajoghaaDoor


/- Contracts: the reference's lists of limbs. -/
namespace Go.Proofs.YtcdnonggajoghaaDoor
open Go Go.RowKit
set_option linter.unusedVariables false
set_option linter.unusedSimpArgs false
set_option maxRecDepth 100000

theorem rtrim_own {H : Heap} {b ver e k0 : Nat} {l : List Nat} (hb : H[b]? = some (.cells ver e (limbs l))) (hok : okL l) (hk0 : k0 ≤ l.length) (hl : k0 < 1000000000) :
    VCall EE 56 [.osl b ver 0 k0 1] H fun v H' => H' = H ∧ v = .osl b ver 0 (dg (val (l.take k0))).length 1 := by
  have hok' := hok.take k0
  have hle : (l.take k0).length = k0 := by rw [List.length_take]; omega
  refine VCall.of_body true Tryd.func56 rfl (by decide) rfl ?_
  repeat' ((conv => whnf); first | refine ngo ?_ | refine VB.tt ?_ | refine VB.ff ?_ | refine VNew.keep ?_ | refine dgo ?_ | refine sgo ?_ | fail)
  conv => whnf
  refine VLoop.ix true (fun k : Nat => ⟨[(0, .osl b ver 0 k 1)], H, []⟩) (fun k => k ≤ k0 ∧ val ((l.take k0).take k) = val (l.take k0)) id k0 ⟨Nat.le_refl _, by rw [List.take_of_length_le (by omega)]⟩ ⟨⟨rfl, trivial⟩, rfl, rfl⟩ ?_
  rintro k ⟨hk, hv⟩
  repeat' ((conv => whnf); first | refine ngo ?_ | refine VB.tt ?_ | refine VB.ff ?_ | refine VNew.keep ?_ | refine dgo ?_ | refine sgo ?_ | fail)
  conv => whnf
  by_cases h0 : (k : Int) > 0
  · rw [decide_eq_true h0]
    obtain ⟨k, rfl⟩ : ∃ j, k = j + 1 := ⟨k - 1, by omega⟩
    have ek : (((k + 1 : Nat) : Int) - 1).toNat = k := by omega
    have hgd : (l.take k0).getD k 0 = l.getD k 0 := by simp [List.getD_eq_getElem?_getD, List.getElem?_take, show k < k0 by omega]
    repeat' ((conv => whnf); first | refine ngo ?_ | refine VB.tt ?_ | refine VB.ff ?_ | refine VNew.keep ?_ | refine dgo ?_ | refine sgo ?_ | fail)
    conv => whnf
    rw [hb]
    repeat' ((conv => whnf); first | refine ngo ?_ | refine VB.tt ?_ | refine VB.ff ?_ | refine VNew.keep ?_ | refine dgo ?_ | refine sgo ?_ | fail)
    conv => whnf
    rw [ek, Nat.mul_one, Nat.zero_add, getInt_limbs]
    refine VB.eq (fun h => ?_) (fun h => ?_)
    · repeat' ((conv => whnf); first | refine ngo ?_ | refine VB.tt ?_ | refine VB.ff ?_ | refine VNew.keep ?_ | refine dgo ?_ | refine sgo ?_ | fail)
      conv => whnf
      refine ⟨k, ⟨by omega, ?_⟩, by simp, ⟨⟨by simp only [lk, ek]; rfl, trivial⟩, rfl, rfl⟩⟩
      rw [val_take_succ (by omega), hgd] at hv
      rw [show l.getD k 0 = 0 by omega] at hv
      omega
    · repeat' ((conv => whnf); first | refine ngo ?_ | refine VB.tt ?_ | refine VB.ff ?_ | refine VNew.keep ?_ | refine dgo ?_ | refine sgo ?_ | fail)
      conv => whnf
      rw [dg_length_of hok' (by omega) hv (.inr (by rw [Nat.add_sub_cancel, hgd]; omega))]
      exact to_forceH ⟨rfl, rfl⟩
  · rw [decide_eq_false h0]
    have : k = 0 := by omega
    subst this
    repeat' ((conv => whnf); first | refine ngo ?_ | refine VB.tt ?_ | refine VB.ff ?_ | refine VNew.keep ?_ | refine dgo ?_ | refine sgo ?_ | fail)
    conv => whnf
    rw [dg_length_of hok' (by omega) hv (.inl rfl)]
    exact to_forceH ⟨rfl, rfl⟩

theorem rtrim_c {l : List Nat} (hok : okL l) (hl : l.length < 1000000000) : VCall EE 56 [natL l] [] fun v H => v = natv (val l) := by
  refine VCall.of_body true Tryd.func56 rfl (by decide) rfl ?_
  repeat' ((conv => whnf); first | refine ngo ?_ | refine VB.tt ?_ | refine VB.ff ?_ | refine VNew.keep ?_ | refine dgo ?_ | refine sgo ?_ | fail)
  conv => whnf
  refine VLoop.ix true (fun k : Nat => ⟨[(0, .dsl (limbs (l.take k)) k)], [], []⟩) (fun k => k ≤ l.length ∧ val (l.take k) = val l) id l.length ⟨Nat.le_refl _, by rw [List.take_length]⟩ ⟨⟨by simp [lk, mkFr, natL], trivial⟩, rfl, rfl⟩ ?_
  rintro k ⟨hk, hv⟩
  have ht : ∀ k, k ≤ l.length → val (l.take k) = val l → (k = 0 ∨ l.getD (k - 1) 0 ≠ 0) → AV.dsl (limbs (l.take k)) k = natv (val l) := by
    intro k h1 h2 h3
    have h4 := dg_length_of hok h1 h2 h3
    have h5 := take_dg hok
    rw [h4] at h5
    rw [natv, ← h5, natL, List.length_take, Nat.min_eq_left h1]
  repeat' ((conv => whnf); first | refine ngo ?_ | refine VB.tt ?_ | refine VB.ff ?_ | refine VNew.keep ?_ | refine dgo ?_ | refine sgo ?_ | fail)
  conv => whnf
  by_cases h0 : (k : Int) > 0
  · rw [decide_eq_true h0]
    obtain ⟨k, rfl⟩ : ∃ j, k = j + 1 := ⟨k - 1, by omega⟩
    have ek : (((k + 1 : Nat) : Int) - 1).toNat = k := by omega
    have hlk : (l.take (k + 1)).length = k + 1 := by rw [List.length_take]; omega
    have hgd : (l.take (k + 1)).getD k 0 = l.getD k 0 := by simp [List.getD_eq_getElem?_getD, List.getElem?_take]
    repeat' ((conv => whnf); first | refine ngo ?_ | refine VB.tt ?_ | refine VB.ff ?_ | refine VNew.keep ?_ | refine dgo ?_ | refine sgo ?_ | fail)
    conv => whnf
    rw [ek, Nat.mul_one, getInt_limbs, hgd]
    refine VB.eq (fun h => ?_) (fun h => ?_)
    · repeat' ((conv => whnf); first | refine ngo ?_ | refine VB.tt ?_ | refine VB.ff ?_ | refine VNew.keep ?_ | refine dgo ?_ | refine sgo ?_ | fail)
      conv => whnf
      refine ⟨k, ⟨by omega, ?_⟩, by simp, ⟨⟨?_, trivial⟩, rfl, rfl⟩⟩
      · rw [val_take_succ (by omega)] at hv
        rw [show l.getD k 0 = 0 by omega] at hv
        omega
      · simp only [lk, ek, Nat.zero_mul, List.drop_zero, Nat.sub_zero, Nat.mul_one, limbs_take, List.take_take, if_pos]
        rw [Nat.min_eq_left (by omega)]
    · repeat' ((conv => whnf); first | refine ngo ?_ | refine VB.tt ?_ | refine VB.ff ?_ | refine VNew.keep ?_ | refine dgo ?_ | refine sgo ?_ | fail)
      conv => whnf
      exact (ht (k + 1) hk hv (.inr (by rw [Nat.add_sub_cancel]; omega)))
  · rw [decide_eq_false h0]
    have : k = 0 := by omega
    subst this
    repeat' ((conv => whnf); first | refine ngo ?_ | refine VB.tt ?_ | refine VB.ff ?_ | refine VNew.keep ?_ | refine dgo ?_ | refine sgo ?_ | fail)
    conv => whnf
    exact (ht 0 hk hv (.inl rfl))

theorem rorder_c {a b : List Nat} (ha : canon a) (hb : canon b) (la : a.length < 1000000000) (lb : b.length < 1000000000) : VCall EE 37 [natL a, natL b] [] fun v H => v = .int .i64 (cmpN (val a) (val b)) := by
  refine VCall.of_body true Tryd.func37 rfl (by decide) rfl ?_
  repeat' ((conv => whnf); first | refine ngo ?_ | refine VB.tt ?_ | refine VB.ff ?_ | refine VNew.keep ?_ | refine dgo ?_ | refine sgo ?_ | fail)
  conv => whnf
  refine VB.ne (fun h => ?_) (fun h => ?_)
  · repeat' ((conv => whnf); first | refine ngo ?_ | refine VB.tt ?_ | refine VB.ff ?_ | refine VNew.keep ?_ | refine dgo ?_ | refine sgo ?_ | fail)
    conv => whnf
    refine VB.dec (fun h => ?_) (fun h => ?_)
    · repeat' ((conv => whnf); first | refine ngo ?_ | refine VB.tt ?_ | refine VB.ff ?_ | refine VNew.keep ?_ | refine dgo ?_ | refine sgo ?_ | fail)
      conv => whnf
      rw [cmpN_lt (canon_lt ha.1 hb (by omega))]
    · repeat' ((conv => whnf); first | refine ngo ?_ | refine VB.tt ?_ | refine VB.ff ?_ | refine VNew.keep ?_ | refine dgo ?_ | refine sgo ?_ | fail)
      conv => whnf
      rw [cmpN_gt (canon_lt hb.1 ha (by omega))]
  · repeat' ((conv => whnf); first | refine ngo ?_ | refine VB.tt ?_ | refine VB.ff ?_ | refine VNew.keep ?_ | refine dgo ?_ | refine sgo ?_ | fail)
    conv => whnf
    refine VLoop.ix true (fun i : Nat => ⟨[(0, natL a), (1, natL b), (5, .int .i64 (i - 1))], [], []⟩) (fun i => i ≤ a.length ∧ a.drop i = b.drop i) id a.length ⟨Nat.le_refl _, by rw [List.drop_length, List.drop_eq_nil_of_le (by omega)]⟩ ⟨⟨rfl, rfl, rfl, trivial⟩, rfl, rfl⟩ ?_
    rintro i ⟨hi, hd⟩
    repeat' ((conv => whnf); first | refine ngo ?_ | refine VB.tt ?_ | refine VB.ff ?_ | refine VNew.keep ?_ | refine dgo ?_ | refine sgo ?_ | fail)
    conv => whnf
    refine VB.dec (fun h => ?_) (fun h => ?_)
    · obtain ⟨i, rfl⟩ : ∃ k, i = k + 1 := ⟨i - 1, by omega⟩
      have ei : (((i + 1 : Nat) : Int) - 1).toNat = i := by omega
      repeat' ((conv => whnf); first | refine ngo ?_ | refine VB.tt ?_ | refine VB.ff ?_ | refine VNew.keep ?_ | refine dgo ?_ | refine sgo ?_ | fail)
      conv => whnf
      rw [ei, Nat.mul_one, getInt_limbs, getInt_limbs]
      refine VB.dec (fun h => ?_) (fun h => ?_)
      · repeat' ((conv => whnf); first | refine ngo ?_ | refine VB.tt ?_ | refine VB.ff ?_ | refine VNew.keep ?_ | refine dgo ?_ | refine sgo ?_ | fail)
        conv => whnf
        rw [cmpN_lt (val_lt_of ha.1 hb.1 (i := i) (by omega) (by omega) hd (by omega))]
      · repeat' ((conv => whnf); first | refine ngo ?_ | refine VB.tt ?_ | refine VB.ff ?_ | refine VNew.keep ?_ | refine dgo ?_ | refine sgo ?_ | fail)
        conv => whnf
        rw [ei, Nat.mul_one, getInt_limbs, getInt_limbs]
        refine VB.dec (fun h => ?_) (fun h => ?_)
        · repeat' ((conv => whnf); first | refine ngo ?_ | refine VB.tt ?_ | refine VB.ff ?_ | refine VNew.keep ?_ | refine dgo ?_ | refine sgo ?_ | fail)
          conv => whnf
          rw [cmpN_gt (val_lt_of hb.1 ha.1 (i := i) (by omega) (by omega) hd.symm (by omega))]
        · repeat' ((conv => whnf); first | refine ngo ?_ | refine VB.tt ?_ | refine VB.ff ?_ | refine VNew.keep ?_ | refine dgo ?_ | refine sgo ?_ | fail)
          conv => whnf
          refine ⟨i, ⟨by omega, ?_⟩, by simp, ⟨⟨rfl, rfl, by simp [lk], trivial⟩, rfl, rfl⟩⟩
          rw [List.drop_eq_getElem_cons (by omega), List.drop_eq_getElem_cons (l := b) (by omega), hd]
          have h3 : a.getD i 0 = b.getD i 0 := by omega
          simp [List.getD_eq_getElem?_getD, show i < a.length by omega, show i < b.length by omega] at h3
          rw [h3]
    · have : i = 0 := by omega
      subst this
      repeat' ((conv => whnf); first | refine ngo ?_ | refine VB.tt ?_ | refine VB.ff ?_ | refine VNew.keep ?_ | refine dgo ?_ | refine sgo ?_ | fail)
      conv => whnf
      rw [cmpN_eq (by simpa using congrArg val hd)]

theorem rcheck_c (l : List Nat) (ll : l.length < 1000000000000000000) : VCall EE 13 [natL l] [] fun v H => v = .int .i64 (chk l) := by
  refine VCall.of_body true Tryd.func13 rfl (by decide) rfl ?_
  repeat' ((conv => whnf); first | refine ngo ?_ | refine VB.tt ?_ | refine VB.ff ?_ | refine VNew.keep ?_ | refine dgo ?_ | refine sgo ?_ | fail)
  conv => whnf
  refine VB.dec (fun h => ?_) (fun h => ?_)
  · repeat' ((conv => whnf); first | refine ngo ?_ | refine VB.tt ?_ | refine VB.ff ?_ | refine VNew.keep ?_ | refine dgo ?_ | refine sgo ?_ | fail)
    conv => whnf
    rw [chk, if_pos (by omega)]
  · have hc : chk l = if canonB l then 0 else 3 := by rw [chk, if_neg (by omega)]
    repeat' ((conv => whnf); first | refine ngo ?_ | refine VB.tt ?_ | refine VB.ff ?_ | refine VNew.keep ?_ | refine dgo ?_ | refine sgo ?_ | fail)
    conv => whnf
    refine VLoop.ix true (fun i : Nat => ⟨[(0, natL l), (3, .int .i64 i)], [], []⟩) (fun i => i ≤ l.length ∧ okL (l.take i)) (fun i => l.length - i) 0 ⟨Nat.zero_le _, by simp [okL]⟩ ⟨⟨rfl, rfl, trivial⟩, rfl, rfl⟩ ?_
    rintro i ⟨hi, hd⟩
    have hBB : BB = 1000000000 := rfl
    repeat' ((conv => whnf); first | refine ngo ?_ | refine VB.tt ?_ | refine VB.ff ?_ | refine VNew.keep ?_ | refine dgo ?_ | refine sgo ?_ | fail)
    conv => whnf
    refine VB.dec (fun h => ?_) (fun h => ?_)
    · have hx : l.getD i 0 ∈ l := by
        simp [List.getD_eq_getElem?_getD, show i < l.length by omega]
      have hx2 : l[i]'(by omega) = l.getD i 0 := by simp [List.getD_eq_getElem?_getD, show i < l.length by omega]
      repeat' ((conv => whnf); first | refine ngo ?_ | refine VB.tt ?_ | refine VB.ff ?_ | refine VNew.keep ?_ | refine dgo ?_ | refine sgo ?_ | fail)
      conv => whnf
      rw [Int.toNat_natCast, Nat.mul_one, getInt_limbs]
      refine VB.dec (fun h1 => ?_) (fun h1 => ?_)
      · repeat' ((conv => whnf); first | refine ngo ?_ | refine VB.tt ?_ | refine VB.ff ?_ | refine VNew.keep ?_ | refine dgo ?_ | refine sgo ?_ | fail)
        conv => whnf
        rw [hc, canonB_false (fun hcc => absurd (hcc.1 _ hx) (by omega))]
        rfl
      · repeat' ((conv => whnf); first | refine ngo ?_ | refine VB.tt ?_ | refine VB.ff ?_ | refine VNew.keep ?_ | refine dgo ?_ | refine sgo ?_ | fail)
        conv => whnf
        refine ⟨i + 1, ⟨by omega, ?_⟩, by omega, ⟨⟨rfl, by simp [lk], trivial⟩, rfl, rfl⟩⟩
        rw [List.take_succ_eq_append_getElem (by omega)]
        refine okL_append.2 ⟨hd, fun x hx => ?_⟩
        rw [List.mem_singleton.1 hx, hx2]
        omega
    · have : i = l.length := by omega
      subst this
      rw [List.take_length] at hd
      have e : l.all (fun x => decide (x < BB)) = true := List.all_eq_true.2 fun x hx => decide_eq_true (hd x hx)
      unfold canonB at hc
      rw [e] at hc
      repeat' ((conv => whnf); first | refine ngo ?_ | refine VB.tt ?_ | refine VB.ff ?_ | refine VNew.keep ?_ | refine dgo ?_ | refine sgo ?_ | fail)
      conv => whnf
      by_cases h0 : (l.length : Int) > 0
      · rw [decide_eq_true h0]
        have el : ((l.length : Int) - 1).toNat = l.length - 1 := by omega
        have hl : l.getLast? = some (l.getD (l.length - 1) 0) := by
          rw [List.getLast?_eq_getElem?, List.getD_eq_getElem?_getD, List.getElem?_eq_getElem (by omega)]
          rfl
        rw [hl] at hc
        repeat' ((conv => whnf); first | refine ngo ?_ | refine VB.tt ?_ | refine VB.ff ?_ | refine VNew.keep ?_ | refine dgo ?_ | refine sgo ?_ | fail)
        conv => whnf
        rw [el, Nat.mul_one, getInt_limbs]
        generalize l.getD (l.length - 1) 0 = x at *
        refine VB.eq (fun h1 => ?_) (fun h1 => ?_)
        · have h1 : x = 0 := by omega
          subst h1
          repeat' ((conv => whnf); first | refine ngo ?_ | refine VB.tt ?_ | refine VB.ff ?_ | refine VNew.keep ?_ | refine dgo ?_ | refine sgo ?_ | fail)
          conv => whnf
          rw [hc]
          rfl
        · have h1 : x ≠ 0 := by omega
          repeat' ((conv => whnf); first | refine ngo ?_ | refine VB.tt ?_ | refine VB.ff ?_ | refine VNew.keep ?_ | refine dgo ?_ | refine sgo ?_ | fail)
          conv => whnf
          rw [hc]
          simp [h1]
      · rw [decide_eq_false h0]
        have : l = [] := List.length_eq_zero_iff.1 (by omega)
        subst this
        repeat' ((conv => whnf); first | refine ngo ?_ | refine VB.tt ?_ | refine VB.ff ?_ | refine VNew.keep ?_ | refine dgo ?_ | refine sgo ?_ | fail)
        conv => whnf
        rfl

theorem rboth_c (a b : List Nat) (la : a.length < 1000000000000000000) (lb : b.length < 1000000000000000000) : VCall EE 40 [natL a, natL b] [] fun v H => v = .int .i64 (both2 a b) := by
  refine VCall.of_body true Tryd.func40 rfl (by decide) rfl ?_
  repeat' ((conv => whnf); first | refine ngo ?_ | refine VB.tt ?_ | refine VB.ff ?_ | refine VNew.keep ?_ | refine dgo ?_ | refine sgo ?_ | fail)
  conv => whnf
  refine VCall.s (rcheck_c a la) ?_
  repeat' ((conv => whnf); first | refine ngo ?_ | refine VB.tt ?_ | refine VB.ff ?_ | refine VNew.keep ?_ | refine dgo ?_ | refine sgo ?_ | fail)
  conv => whnf
  refine VB.ne (fun h => ?_) (fun h => ?_)
  · repeat' ((conv => whnf); first | refine ngo ?_ | refine VB.tt ?_ | refine VB.ff ?_ | refine VNew.keep ?_ | refine dgo ?_ | refine sgo ?_ | fail)
    conv => whnf
    rw [both2, if_neg h]
  · repeat' ((conv => whnf); first | refine ngo ?_ | refine VB.tt ?_ | refine VB.ff ?_ | refine VNew.keep ?_ | refine dgo ?_ | refine sgo ?_ | fail)
    conv => whnf
    refine VCall.s (rcheck_c b lb) ?_
    repeat' ((conv => whnf); first | refine ngo ?_ | refine VB.tt ?_ | refine VB.ff ?_ | refine VNew.keep ?_ | refine dgo ?_ | refine sgo ?_ | fail)
    conv => whnf
    rw [both2, if_pos h]

theorem dg_single {n : Nat} (h : n < BB) : val [n] = n := by simp [val]

theorem copyD {l : List Nat} : List.take (l.length * 1) (List.drop 0 (List.take (0 * 1) ([] : List AV) ++ limbs l)) = limbs l := by
  rw [Nat.mul_one]; exact List.take_of_length_le (by simp [limbs])

end Go.Proofs.YtcdnonggajoghaaDoor


/- Contracts: numbers as ints. -/
namespace Go.Proofs.YtcdnonggajoghaaDoor
open Go Go.RowKit
set_option linter.unusedVariables false
set_option linter.unusedSimpArgs false
set_option maxRecDepth 100000

theorem val_drop_succ {l : List Nat} {i : Nat} (h : i < l.length) : val (l.drop i) = l.getD i 0 + BB * val (l.drop (i + 1)) := by
  rw [List.drop_eq_getElem_cons h]
  simp only [val, List.getD_eq_getElem?_getD, List.getElem?_eq_getElem h, Option.getD_some]

theorem val_ge_drop (l : List Nat) (i : Nat) : val (l.drop i) ≤ val l := by
  induction i generalizing l with
  | zero => simp
  | succ i ih =>
    cases l with
    | nil => simp
    | cons x l =>
      rw [List.drop_succ_cons]
      have := ih l
      have hBB : BB = 1000000000 := rfl
      simp only [val]
      rw [hBB]
      omega

def intV (n : Nat) : Int := if n < 9223372036854775808 then n else if n = 9223372036854775808 then -9223372036854775808 else 0
def intE (n : Nat) : AV := .tup [.int .i64 (intV n), .bool (decide (n < 9223372036854775808))]

/-- A number as an int, or which error. -/
def intR (l : List Nat) : AV := if chk l = 0 then (if val l < 9223372036854775808 then .tup [.int .i64 (val l), .int .i64 0] else .tup [.int .i64 0, .int .i64 5]) else .tup [.int .i64 0, .int .i64 (chk l)]

theorem int_c {l : List Nat} (hc : canon l) (ll : l.length < 1000000000000) : VCall EE 36 [.bool false, natL l] [] fun v H => v = intE (val l) := by
  refine VCall.of_body true Tryd.func36 rfl (by decide) rfl ?_
  have hBB : BB = 1000000000 := rfl
  repeat' ((conv => whnf); first | refine ngo ?_ | refine VB.tt ?_ | refine VB.ff ?_ | refine VNew.keep ?_ | refine dgo ?_ | refine sgo ?_ | fail)
  conv => whnf
  refine VB.dec (fun h => ?_) (fun h => ?_)
  · repeat' ((conv => whnf); first | refine ngo ?_ | refine VB.tt ?_ | refine VB.ff ?_ | refine VNew.keep ?_ | refine dgo ?_ | refine sgo ?_ | fail)
    conv => whnf
    have h1 := hc.ge (by rintro rfl; simp at h)
    have h2 : BB ^ 3 ≤ BB ^ (l.length - 1) := Nat.pow_le_pow_right (by decide) (by omega)
    have h3 : BB ^ 3 = 1000000000000000000000000000 := rfl
    generalize BB ^ (l.length - 1) = p at *
    generalize BB ^ 3 = q at *
    rw [intE, intV, if_neg (by omega), if_neg (by omega), decide_eq_false (by omega)]
  · repeat' ((conv => whnf); first | refine ngo ?_ | refine VB.tt ?_ | refine VB.ff ?_ | refine VNew.keep ?_ | refine dgo ?_ | refine sgo ?_ | fail)
    conv => whnf
    refine VLoop.ix true (fun i : Nat => ⟨[(0, .bool false), (1, natL l), (6, .int .u64 (val (l.drop i) : Nat)), (7, .int .i64 (i - 1))], [], []⟩) (fun i => i ≤ l.length ∧ val (l.drop i) ≤ 9223372036854775808) id l.length ⟨Nat.le_refl _, by simp [val]⟩ ⟨⟨rfl, rfl, by simp [lk, val], rfl, trivial⟩, rfl, rfl⟩ ?_
    rintro i ⟨hi, hv⟩
    repeat' ((conv => whnf); first | refine ngo ?_ | refine VB.tt ?_ | refine VB.ff ?_ | refine VNew.keep ?_ | refine dgo ?_ | refine sgo ?_ | fail)
    conv => whnf
    refine VB.dec (fun h => ?_) (fun h => ?_)
    · obtain ⟨i, rfl⟩ : ∃ k, i = k + 1 := ⟨i - 1, by omega⟩
      have ei : (((i + 1 : Nat) : Int) - 1).toNat = i := by omega
      have hs := val_drop_succ (l := l) (i := i) (by omega)
      have hg := val_ge_drop l i
      have hd : l.getD i 0 < 1000000000 := hc.1 _ (by simp [List.getD_eq_getElem?_getD, show i < l.length by omega])
      repeat' ((conv => whnf); first | refine ngo ?_ | refine VB.tt ?_ | refine VB.ff ?_ | refine VNew.keep ?_ | refine dgo ?_ | refine sgo ?_ | fail)
      conv => whnf
      rw [ei, Nat.mul_one, getInt_limbs]
      generalize hgd : l.getD i 0 = d at *
      generalize val (l.drop (i + 1)) = y at *
      repeat' ((conv => whnf); first | refine ngo ?_ | refine VB.tt ?_ | refine VB.ff ?_ | refine VNew.keep ?_ | refine dgo ?_ | refine sgo ?_ | fail)
      conv => whnf
      have e1 : ((9223372036854775808 : Int) - (d : Int)).tdiv 1000000000 = (((9223372036854775808 - d) / 1000000000 : Nat) : Int) := by
        rw [show (9223372036854775808 : Int) - (d : Int) = ((9223372036854775808 - d : Nat) : Int) by omega]
        exact (Int.ofNat_tdiv _ _).symm
      rw [e1]
      rw [hBB] at hs
      repeat' ((conv => whnf); first | refine ngo ?_ | refine VB.tt ?_ | refine VB.ff ?_ | refine VNew.keep ?_ | refine dgo ?_ | refine sgo ?_ | fail)
      conv => whnf
      refine VB.dec (fun h4 => ?_) (fun h4 => ?_)
      · repeat' ((conv => whnf); first | refine ngo ?_ | refine VB.tt ?_ | refine VB.ff ?_ | refine VNew.keep ?_ | refine dgo ?_ | refine sgo ?_ | fail)
        conv => whnf
        rw [intE, intV, if_neg (by omega), if_neg (by omega), decide_eq_false (by omega)]
      · repeat' ((conv => whnf); first | refine ngo ?_ | refine VB.tt ?_ | refine VB.ff ?_ | refine VNew.keep ?_ | refine dgo ?_ | refine sgo ?_ | fail)
        conv => whnf
        rw [ei, Nat.mul_one, getInt_limbs, hgd]
        repeat' ((conv => whnf); first | refine ngo ?_ | refine VB.tt ?_ | refine VB.ff ?_ | refine VNew.keep ?_ | refine dgo ?_ | refine sgo ?_ | fail)
        conv => whnf
        refine ⟨i, ⟨by omega, by omega⟩, by simp, ⟨⟨rfl, rfl, by simp only [lk]; exact congrArg (fun z => some (AV.int .u64 z)) (by rw [hs]; omega), by simp [lk], trivial⟩, rfl, rfl⟩⟩
    · have : i = 0 := by omega
      subst this
      rw [List.drop_zero] at *
      generalize val l = z at *
      repeat' ((conv => whnf); first | refine VB.tt ?_ | refine VB.ff ?_ | refine VNew.keep ?_ | refine dgo ?_ | refine sgo ?_ | fail)
      conv => whnf
      by_cases hz : z = 9223372036854775808
      · subst hz
        refine VNext.at_ false ⟨[(0, .bool false), (6, .int .u64 9223372036854775808)], [], []⟩ ⟨⟨rfl, rfl, trivial⟩, rfl, rfl⟩ ?_
        iterate 6 ((conv => whnf); try (first | refine VB.ff ?_ | refine VNext.go false ?_ | fail))
        conv => whnf
        trace_state
        rfl
      · refine VNext.at_ true ⟨[(0, .bool false), (6, .int .u64 z)], [], []⟩ ⟨by (repeat' first | exact trivial | exact And.intro (by first | rfl | (simp [lk]; done)) trivial | refine And.intro (by first | rfl | (simp [lk]; done)) ?_), rfl, rfl⟩ ?_
        repeat' ((conv => whnf); first | refine ngo ?_ | refine VB.tt ?_ | refine VB.ff ?_ | refine VNew.keep ?_ | refine dgo ?_ | refine sgo ?_ | fail)
        conv => whnf
        rw [intE, intV, if_pos (by omega), decide_eq_true (by omega), decide_eq_true (by omega)]

theorem nint_c (l : List Nat) (ll : l.length < 1000000000000000000) : VCall EE 14 [natL l] [] fun v H => v = intR l := by
  refine VCall.of_body true Tryd.func14 rfl (by decide) rfl ?_
  repeat' ((conv => whnf); first | refine ngo ?_ | refine VB.tt ?_ | refine VB.ff ?_ | refine VNew.keep ?_ | refine dgo ?_ | refine sgo ?_ | fail)
  conv => whnf
  refine VCall.s (check_c l ll) ?_
  repeat' ((conv => whnf); first | refine ngo ?_ | refine VB.tt ?_ | refine VB.ff ?_ | refine VNew.keep ?_ | refine dgo ?_ | refine sgo ?_ | fail)
  conv => whnf
  refine VB.ne (fun h => ?_) (fun h => ?_)
  · repeat' ((conv => whnf); first | refine ngo ?_ | refine VB.tt ?_ | refine VB.ff ?_ | refine VNew.keep ?_ | refine dgo ?_ | refine sgo ?_ | fail)
    conv => whnf
    rw [intR, if_neg h]
  · obtain ⟨hc, h1⟩ := chk_zero h
    repeat' ((conv => whnf); first | refine ngo ?_ | refine VB.tt ?_ | refine VB.ff ?_ | refine VNew.keep ?_ | refine dgo ?_ | refine sgo ?_ | fail)
    conv => whnf
    refine VCall.s (int_c hc (by omega)) ?_
    repeat' ((conv => whnf); first | refine ngo ?_ | refine VB.tt ?_ | refine VB.ff ?_ | refine VNew.keep ?_ | refine dgo ?_ | refine sgo ?_ | fail)
    conv => whnf
    by_cases h2 : val l < 9223372036854775808
    · rw [decide_eq_true h2]
      repeat' ((conv => whnf); first | refine ngo ?_ | refine VB.tt ?_ | refine VB.ff ?_ | refine VNew.keep ?_ | refine dgo ?_ | refine sgo ?_ | fail)
      conv => whnf
      rw [intR, if_pos h, if_pos h2, intV, if_pos h2]
    · rw [decide_eq_false h2]
      repeat' ((conv => whnf); first | refine ngo ?_ | refine VB.tt ?_ | refine VB.ff ?_ | refine VNew.keep ?_ | refine dgo ?_ | refine sgo ?_ | fail)
      conv => whnf
      rw [intR, if_pos h, if_neg h2]

theorem rof_c (n : Int) (h1 : -9223372036854775808 ≤ n) (h2 : n < 9223372036854775808) : VCall EE 10 [.int .i64 n] [] fun v H => Fz H 0 [] v (.tup [natv n.toNat, .int .i64 (if n < 0 then 2 else 0)]) := by
  refine VCall.of_body true Tryd.func10 rfl (by decide) rfl ?_
  repeat' ((conv => whnf); first | refine ngo ?_ | refine VB.tt ?_ | refine VB.ff ?_ | refine VNew.keep ?_ | refine dgo ?_ | refine sgo ?_ | fail)
  conv => whnf
  refine VB.dec (fun h => ?_) (fun h => ?_)
  · repeat' ((conv => whnf); first | refine ngo ?_ | refine VB.tt ?_ | refine VB.ff ?_ | refine VNew.keep ?_ | refine dgo ?_ | refine sgo ?_ | fail)
    conv => whnf
    rw [if_pos h, show n.toNat = 0 by omega]
    repeat' (first | exact fz_nil0 | exact Fz.nsl | exact Fz.same rfl (by repeat' (first | exact trivial | exact low_natL 0 _ | exact low_limbs 0 _ | refine And.intro ?_ ?_ | fail)) | refine Fz.tup ?_ | refine FzL.cons ?_ ?_ | exact FzL.nil | fail)
  · rw [if_neg h]
    obtain ⟨n, rfl⟩ : ∃ k : Nat, n = k := ⟨n.toNat, by omega⟩
    rw [Int.toNat_natCast]
    repeat' ((conv => whnf); first | refine ngo ?_ | refine VB.tt ?_ | refine VB.ff ?_ | refine VNew.keep ?_ | refine dgo ?_ | refine sgo ?_ | fail)
    conv => whnf
    refine VLoop.tr true (fun x : List Nat × Nat => ⟨[(0, .int .i64 x.2), (4, accV x.1)], accH 30 x.1, []⟩) (fun x => x.2 ≤ n ∧ x.1 ++ dg x.2 = dg n) (fun x => x.2) ([], n) ⟨Nat.le_refl _, rfl⟩ ⟨⟨rfl, rfl, trivial⟩, rfl, rfl⟩ ?_
    rintro ⟨l, r⟩ ⟨hr, he⟩
    dsimp only at hr he ⊢
    have hl : l.length < 1000000 := by
      have h1 := congrArg List.length he
      have h2 : (dg n).length ≤ 3 := length_dg_lt (Nat.lt_of_lt_of_le (show n < 9223372036854775808 by omega) (by decide))
      rw [List.length_append] at h1
      omega
    repeat' ((conv => whnf); first | refine ngo ?_ | refine VB.tt ?_ | refine VB.ff ?_ | refine VNew.keep ?_ | refine dgo ?_ | refine sgo ?_ | fail)
    conv => whnf
    refine VB.dec (fun h => ?_) (fun h => ?_)
    · have g5 := tdiv_BB r
      have g6 := tmod_BB r
      have hm := Nat.mod_lt r (show 0 < BB by decide)
      have hdv : r / BB < r := Nat.div_lt_self (by omega) (by decide)
      have hdg := dg_pos (n := r) (by omega)
      have hBB : BB = 1000000000 := rfl
      generalize r / BB = q at *
      generalize r % BB = m at *
      cases l with
      | nil =>
        repeat' ((conv => whnf); first | refine ngo ?_ | refine VB.tt ?_ | refine VB.ff ?_ | refine VNew.keep ?_ | refine dgo ?_ | refine sgo ?_ | fail)
        conv => whnf
        rw [g6]
        repeat' ((conv => whnf); first | refine ngo ?_ | refine VB.tt ?_ | refine VB.ff ?_ | refine VNew.keep ?_ | refine dgo ?_ | refine sgo ?_ | fail)
        conv => whnf
        refine ⟨([m], q), ⟨by dsimp only; omega, by simpa [hdg] using he⟩, hdv, [1], by simp, by simp, ⟨⟨_, rfl, .cells rfl (FzL.same rfl (low_limbs _ [m]))⟩, trivial⟩, ⟨⟨_, rfl, .same (by rw [g5]) trivial⟩, ⟨_, rfl, .kosl (j := 0) rfl rfl rfl rfl⟩, trivial⟩, rfl, by simp⟩
      | cons x l =>
        simp only [List.length_cons] at hl
        repeat' ((conv => whnf); first | refine ngo ?_ | refine VB.tt ?_ | refine VB.ff ?_ | refine VNew.keep ?_ | refine dgo ?_ | refine sgo ?_ | fail)
        conv => whnf
        rw [g6]
        repeat' ((conv => whnf); first | refine ngo ?_ | refine VB.tt ?_ | refine VB.ff ?_ | refine VNew.keep ?_ | refine dgo ?_ | refine sgo ?_ | fail)
        conv => whnf
        refine ⟨(x :: l ++ [m], q), ⟨by dsimp only; omega, by simpa [hdg] using he⟩, hdv, [0], by simp, by simp, ⟨⟨_, rfl, .cells (by simp) (FzL.same ?_ (low_limbs _ (x :: l ++ [m])))⟩, trivial⟩, ⟨⟨_, rfl, .same (by rw [g5]) trivial⟩, ⟨_, rfl, .kosl (j := 0) rfl rfl (by simp) (by simp)⟩, trivial⟩, rfl, by simp⟩
        rw [Nat.mul_one, List.take_of_length_le (by simp [limbs])]
        simp [limbs]
    · have : r = 0 := by omega
      subst this
      rw [dg_zero, List.append_nil] at he
      cases l with
      | nil =>
        repeat' ((conv => whnf); first | refine ngo ?_ | refine VB.tt ?_ | refine VB.ff ?_ | refine VNew.keep ?_ | refine dgo ?_ | refine sgo ?_ | fail)
        conv => whnf
        rw [natv, ← he]
        refine .tup (.cons ?_ (.cons (.same rfl trivial) .nil))
        exact .nsl
      | cons x l =>
        repeat' ((conv => whnf); first | refine ngo ?_ | refine VB.tt ?_ | refine VB.ff ?_ | refine VNew.keep ?_ | refine dgo ?_ | refine sgo ?_ | fail)
        conv => whnf
        rw [natv, ← he]
        refine .tup (.cons ?_ (.cons (.same rfl trivial) .nil))
        exact accV_fz 30 (x :: l)

theorem rint_c (l : List Nat) (ll : l.length < 1000000000000000000) : VCall EE 15 [natL l] [] fun v H => v = intR l := by
  refine VCall.of_body true Tryd.func15 rfl (by decide) rfl ?_
  repeat' ((conv => whnf); first | refine ngo ?_ | refine VB.tt ?_ | refine VB.ff ?_ | refine VNew.keep ?_ | refine dgo ?_ | refine sgo ?_ | fail)
  conv => whnf
  refine VCall.s (rcheck_c l ll) ?_
  repeat' ((conv => whnf); first | refine ngo ?_ | refine VB.tt ?_ | refine VB.ff ?_ | refine VNew.keep ?_ | refine dgo ?_ | refine sgo ?_ | fail)
  conv => whnf
  refine VB.ne (fun h => ?_) (fun h => ?_)
  · repeat' ((conv => whnf); first | refine ngo ?_ | refine VB.tt ?_ | refine VB.ff ?_ | refine VNew.keep ?_ | refine dgo ?_ | refine sgo ?_ | fail)
    conv => whnf
    rw [intR, if_neg h]
  · obtain ⟨hc, h1⟩ := chk_zero h
    have hBB : BB = 1000000000 := rfl
    have hv : val [854775807, 223372036, 9] = 9223372036854775807 := by decide
    have hca : canon [854775807, 223372036, 9] := canonB_iff.1 (by decide)
    repeat' ((conv => whnf); first | refine ngo ?_ | refine VB.tt ?_ | refine VB.ff ?_ | refine dgo ?_ | refine sgo ?_ | fail)
    conv => whnf
    refine VNew.dat (cs' := limbs [854775807, 223372036, 9]) rfl rfl ?_
    repeat' ((conv => whnf); first | refine ngo ?_ | refine VB.tt ?_ | refine VB.ff ?_ | refine VNew.keep ?_ | refine dgo ?_ | refine sgo ?_ | fail)
    conv => whnf
    refine VCall.s (rorder_c hc hca (by omega) (by decide)) ?_
    rw [hv]
    repeat' ((conv => whnf); first | refine ngo ?_ | refine VB.tt ?_ | refine VB.ff ?_ | refine VNew.keep ?_ | refine dgo ?_ | refine sgo ?_ | fail)
    conv => whnf
    refine VB.dec (fun h2 => ?_) (fun h2 => ?_)
    · have h3 : ¬ val l < 9223372036854775808 := fun h4 => by
        have : ¬ 9223372036854775807 < val l := by omega
        unfold cmpN at h2
        split at h2
        · cases h2
        · split at h2
          · cases h2
          · omega
      repeat' ((conv => whnf); first | refine ngo ?_ | refine VB.tt ?_ | refine VB.ff ?_ | refine VNew.keep ?_ | refine dgo ?_ | refine sgo ?_ | fail)
      conv => whnf
      rw [intR, if_pos h, if_neg h3]
    · have h3 : val l < 9223372036854775808 := by
        rcases Nat.lt_or_ge 9223372036854775807 (val l) with h4 | h4
        · rw [cmpN_gt h4] at h2; omega
        · omega
      repeat' ((conv => whnf); first | refine ngo ?_ | refine VB.tt ?_ | refine VB.ff ?_ | refine VNew.keep ?_ | refine dgo ?_ | refine sgo ?_ | fail)
      conv => whnf
      refine VLoop.ix true (fun i : Nat => ⟨[(0, natL l), (5, .int .i64 (val (l.drop i) : Nat)), (6, .int .i64 (i - 1))], [.gone], []⟩) (fun i => i ≤ l.length) id l.length (Nat.le_refl _) ⟨⟨rfl, by simp [lk, val], rfl, trivial⟩, rfl, rfl⟩ ?_
      rintro i hi
      repeat' ((conv => whnf); first | refine ngo ?_ | refine VB.tt ?_ | refine VB.ff ?_ | refine VNew.keep ?_ | refine dgo ?_ | refine sgo ?_ | fail)
      conv => whnf
      refine VB.dec (fun h => ?_) (fun h => ?_)
      · obtain ⟨i, rfl⟩ : ∃ k, i = k + 1 := ⟨i - 1, by omega⟩
        have ei : (((i + 1 : Nat) : Int) - 1).toNat = i := by omega
        have hs := val_drop_succ (l := l) (i := i) (by omega)
        have hg := val_ge_drop l i
        have hd : l.getD i 0 < 1000000000 := hc.1 _ (by simp [List.getD_eq_getElem?_getD, show i < l.length by omega])
        rw [hBB] at hs
        generalize hgd : l.getD i 0 = d at *
        generalize val (l.drop (i + 1)) = y at *
        repeat' ((conv => whnf); first | refine ngo ?_ | refine VB.tt ?_ | refine VB.ff ?_ | refine VNew.keep ?_ | refine dgo ?_ | refine sgo ?_ | fail)
        conv => whnf
        rw [ei, Nat.mul_one, getInt_limbs, hgd]
        repeat' ((conv => whnf); first | refine ngo ?_ | refine VB.tt ?_ | refine VB.ff ?_ | refine VNew.keep ?_ | refine dgo ?_ | refine sgo ?_ | fail)
        conv => whnf
        refine ⟨i, by omega, by simp, ⟨⟨rfl, by simp only [lk]; exact congrArg (fun z => some (AV.int .i64 z)) (by rw [hs]; omega), by simp [lk], trivial⟩, rfl, rfl⟩⟩
      · have : i = 0 := by omega
        subst this
        rw [List.drop_zero] at *
        repeat' ((conv => whnf); first | refine ngo ?_ | refine VB.tt ?_ | refine VB.ff ?_ | refine VNew.keep ?_ | refine dgo ?_ | refine sgo ?_ | fail)
        conv => whnf
        rw [intR, if_pos ‹_›, if_pos h3]
end Go.Proofs.YtcdnonggajoghaaDoor


/- Contracts: the reference's products and differences. -/
namespace Go.Proofs.YtcdnonggajoghaaDoor
open Go Go.RowKit
set_option linter.unusedVariables false
set_option linter.unusedSimpArgs false
set_option maxRecDepth 100000

theorem rtrim_nil {H : Heap} : VCall EE 56 [.nsl] H fun v H' => H' = H ∧ v = .nsl := by
  refine VCall.of_body true Tryd.func56 rfl (by decide) rfl ?_
  repeat' ((conv => whnf); first | refine ngo ?_ | refine VB.tt ?_ | refine VB.ff ?_ | refine VNew.keep ?_ | refine dgo ?_ | refine sgo ?_ | fail)
  conv => whnf
  refine VLoop.ix true (fun k : Nat => ⟨[(0, .nsl)], H, []⟩) (fun k => True) id 0 trivial ⟨⟨rfl, trivial⟩, rfl, rfl⟩ ?_
  rintro k hk
  repeat' ((conv => whnf); first | refine ngo ?_ | refine VB.tt ?_ | refine VB.ff ?_ | refine VNew.keep ?_ | refine dgo ?_ | refine sgo ?_ | fail)
  conv => whnf
  exact to_forceH ⟨rfl, rfl⟩

/-- A number in a block of its own, or none. -/
def accR (l : List Nat) (k : Nat) : AV := match l with
  | [] => .nsl
  | x :: l => .osl 0 l.length 0 k 1

end Go.Proofs.YtcdnonggajoghaaDoor


/- Decimal digits: plain facts (as those of limbs). -/
namespace Go.Proofs.YtcdnonggajoghaaDoor.Dec
set_option linter.unusedVariables false
set_option linter.unusedSimpArgs false

abbrev BB : Nat := 10

def val : List Nat → Nat
  | [] => 0
  | x :: xs => x + BB * val xs
def okL (l : List Nat) : Prop := ∀ x ∈ l, x < BB
def dg (n : Nat) : List Nat := if h : n = 0 then [] else n % BB :: dg (n / BB)
termination_by n
decreasing_by exact Nat.div_lt_self (by omega) (by decide)
def canon (l : List Nat) : Prop := okL l ∧ ∀ x, l.getLast? = some x → x ≠ 0

theorem dg_zero : dg 0 = [] := by rw [dg]; simp
theorem dg_pos {n : Nat} (h : n ≠ 0) : dg n = n % BB :: dg (n / BB) := by rw [dg]; simp [h]

theorem val_dg (n : Nat) : val (dg n) = n := by
  induction n using Nat.strongRecOn with
  | _ n ih =>
    by_cases h : n = 0
    · subst h; rw [dg_zero]; rfl
    · rw [dg_pos h, val, ih _ (Nat.div_lt_self (by omega) (by decide))]
      exact Nat.mod_add_div n BB

theorem okL_dg (n : Nat) : okL (dg n) := by
  induction n using Nat.strongRecOn with
  | _ n ih =>
    by_cases h : n = 0
    · subst h; rw [dg_zero]; intro x hx; cases hx
    · rw [dg_pos h]
      intro x hx
      rcases List.mem_cons.1 hx with rfl | hx
      · exact Nat.mod_lt _ (by decide)
      · exact ih _ (Nat.div_lt_self (by omega) (by decide)) x hx

theorem dg_eq_nil {n : Nat} : dg n = [] ↔ n = 0 := by
  constructor
  · intro h
    by_cases hn : n = 0
    · exact hn
    · rw [dg_pos hn] at h; cases h
  · rintro rfl; exact dg_zero

theorem dg_last (n : Nat) : ∀ x, (dg n).getLast? = some x → x ≠ 0 := by
  induction n using Nat.strongRecOn with
  | _ n ih =>
    intro x hx
    by_cases h : n = 0
    · subst h; rw [dg_zero] at hx; cases hx
    · rw [dg_pos h] at hx
      by_cases h2 : n / BB = 0
      · rw [h2, dg_zero] at hx
        simp at hx
        have h3 : n < BB := (Nat.div_eq_zero_iff_lt (by decide)).1 h2
        have := Nat.mod_eq_of_lt h3
        omega
      · have hne : dg (n / BB) ≠ [] := fun e => h2 (dg_eq_nil.1 e)
        rw [List.getLast?_cons_of_ne_nil hne] at hx
        exact ih _ (Nat.div_lt_self (by omega) (by decide)) x hx

theorem canon_dg (n : Nat) : canon (dg n) := ⟨okL_dg n, dg_last n⟩

theorem okL_cons {x : Nat} {l : List Nat} : okL (x :: l) ↔ x < BB ∧ okL l := by simp [okL]
theorem okL_append {l m : List Nat} : okL (l ++ m) ↔ okL l ∧ okL m := by
  constructor
  · intro h; exact ⟨fun x hx => h x (List.mem_append_left _ hx), fun x hx => h x (List.mem_append_right _ hx)⟩
  · rintro ⟨h1, h2⟩ x hx
    rcases List.mem_append.1 hx with h | h
    · exact h1 x h
    · exact h2 x h
theorem okL.take {l : List Nat} (h : okL l) (n : Nat) : okL (l.take n) := fun x hx => h x (List.mem_of_mem_take hx)
theorem okL.drop {l : List Nat} (h : okL l) (n : Nat) : okL (l.drop n) := fun x hx => h x (List.mem_of_mem_drop hx)

theorem val_append (l m : List Nat) : val (l ++ m) = val l + BB ^ l.length * val m := by
  induction l with
  | nil => simp [val]
  | cons x l ih =>
    simp only [List.cons_append, val, ih, List.length_cons, Nat.pow_succ]
    rw [Nat.mul_add, ← Nat.add_assoc, Nat.mul_comm (BB ^ l.length) BB, Nat.mul_assoc]

theorem val_lt {l : List Nat} (h : okL l) : val l < BB ^ l.length := by
  induction l with
  | nil => simp [val]
  | cons x l ih =>
    rw [okL_cons] at h
    have := ih h.2
    simp only [val, List.length_cons, Nat.pow_succ]
    have h3 : BB * (val l + 1) ≤ BB * BB ^ l.length := Nat.mul_le_mul_left _ this
    have h4 : x < BB := h.1
    rw [Nat.mul_comm (BB ^ l.length) BB]
    rw [Nat.mul_add] at h3
    omega

theorem dg_val {l : List Nat} (h : canon l) : dg (val l) = l := by
  induction l with
  | nil => exact dg_zero
  | cons x l ih =>
    have h1 := okL_cons.1 h.1
    have hc : canon l := by
      refine ⟨h1.2, fun y hy => ?_⟩
      have hne : l ≠ [] := by rintro rfl; cases hy
      exact h.2 y (by rw [List.getLast?_cons_of_ne_nil hne]; exact hy)
    have hx : x < BB := h1.1
    have hpos : x + BB * val l ≠ 0 := by
      intro h0
      have hx0 : x = 0 := by omega
      have hv0 : val l = 0 := by have h : BB * val l = 0 := by omega
                                 exact (Nat.mul_eq_zero.1 h).resolve_left (by decide)
      have : l = [] := by rw [← ih hc, hv0, dg_zero]
      subst this
      exact h.2 x rfl hx0
    rw [val, dg_pos hpos]
    have e1 : (x + BB * val l) % BB = x := by rw [Nat.add_mul_mod_self_left]; exact Nat.mod_eq_of_lt hx
    have e2 : (x + BB * val l) / BB = val l := by rw [Nat.add_mul_div_left _ _ (by decide), Nat.div_eq_of_lt hx, Nat.zero_add]
    rw [e1, e2, ih hc]

theorem val_zeros (n : Nat) : val (List.replicate n 0) = 0 := by
  induction n with
  | zero => rfl
  | succ n ih => rw [List.replicate_succ, val, ih]; rfl

theorem okL_zeros (n : Nat) : okL (List.replicate n 0) := by
  intro x hx
  have := (List.mem_replicate.1 hx).2
  subst this
  decide

/-- A list of limbs is the number's limbs, and zeros. -/
theorem dg_append_zeros {l : List Nat} (h : okL l) : ∃ k, l = dg (val l) ++ List.replicate k 0 := by
  induction l with
  | nil => exact ⟨0, by simp [val, dg_zero]⟩
  | cons x l ih =>
    have h1 := okL_cons.1 h
    obtain ⟨k, hk⟩ := ih h1.2
    have hx : x < BB := h1.1
    by_cases h0 : x + BB * val l = 0
    · have hx0 : x = 0 := by omega
      have hv0 : val l = 0 := by have h : BB * val l = 0 := by omega
                                 exact (Nat.mul_eq_zero.1 h).resolve_left (by decide)
      rw [hv0, dg_zero] at hk
      refine ⟨k + 1, ?_⟩
      rw [val, h0, dg_zero, hx0, hk, List.replicate_succ]
      simp
    · refine ⟨k, ?_⟩
      have e1 : (x + BB * val l) % BB = x := by rw [Nat.add_mul_mod_self_left]; exact Nat.mod_eq_of_lt hx
      have e2 : (x + BB * val l) / BB = val l := by rw [Nat.add_mul_div_left _ _ (by decide), Nat.div_eq_of_lt hx, Nat.zero_add]
      rw [val, dg_pos h0, e1, e2, List.cons_append, ← hk]

theorem dg_length_le {l : List Nat} (h : okL l) : (dg (val l)).length ≤ l.length := by
  obtain ⟨k, hk⟩ := dg_append_zeros h
  have := congrArg List.length hk
  simp at this
  omega

theorem length_dg_lt {n k : Nat} (h : n < BB ^ k) : (dg n).length ≤ k := by
  induction k generalizing n with
  | zero => simp at h; subst h; simp [dg_zero]
  | succ k ih =>
    by_cases h0 : n = 0
    · subst h0; simp [dg_zero]
    · rw [dg_pos h0, List.length_cons]
      have : n / BB < BB ^ k := by
        apply Nat.div_lt_of_lt_mul
        rw [Nat.pow_succ, Nat.mul_comm] at h
        exact h
      have := ih this
      omega

theorem lt_of_length_dg (n : Nat) : n < BB ^ (dg n).length := by
  have := val_lt (okL_dg n)
  rwa [val_dg] at this

theorem pow_le_of_dg {n : Nat} (h : n ≠ 0) : BB ^ ((dg n).length - 1) ≤ n := by
  induction n using Nat.strongRecOn with
  | _ n ih =>
    rw [dg_pos h, List.length_cons, Nat.add_sub_cancel]
    by_cases h2 : n / BB = 0
    · rw [h2, dg_zero, List.length_nil, Nat.pow_zero]; omega
    · have := ih _ (Nat.div_lt_self (by omega) (by decide)) h2
      have hl : (dg (n / BB)).length = (dg (n / BB)).length - 1 + 1 := by
        have : (dg (n / BB)).length ≠ 0 := fun e => h2 (dg_eq_nil.1 (List.length_eq_zero_iff.1 e))
        omega
      rw [hl, Nat.pow_succ]
      exact Nat.le_trans (Nat.mul_le_mul_right BB this) (Nat.div_mul_le_self n BB)

theorem dg_length_mono {a b : Nat} (h : a ≤ b) : (dg a).length ≤ (dg b).length :=
  length_dg_lt (Nat.lt_of_le_of_lt h (lt_of_length_dg b))

/-- Limb i. -/
theorem getD_val {l : List Nat} (h : okL l) (i : Nat) : l.getD i 0 = val l / BB ^ i % BB := by
  induction l generalizing i with
  | nil => simp [val]
  | cons x l ih =>
    have h1 := okL_cons.1 h
    have hx : x < BB := h1.1
    cases i with
    | zero => simp [val, Nat.add_mul_mod_self_left, Nat.mod_eq_of_lt hx]
    | succ i =>
      have := ih h1.2 i
      simp only [List.getD_cons_succ, this, val]
      rw [Nat.pow_succ, Nat.mul_comm (BB ^ i) BB, ← Nat.div_div_eq_div_mul, Nat.add_mul_div_left _ _ (by decide), Nat.div_eq_of_lt hx, Nat.zero_add]

theorem dg_getD (n i : Nat) : (dg n).getD i 0 = n / BB ^ i % BB := by
  rw [getD_val (okL_dg n), val_dg]

theorem val_take_succ {l : List Nat} {i : Nat} (h : i < l.length) : val (l.take (i + 1)) = val (l.take i) + BB ^ i * l.getD i 0 := by
  rw [List.take_add_one, val_append, List.length_take, Nat.min_eq_left (by omega)]
  simp [List.getD_eq_getElem?_getD, h, val]

theorem val_take {l : List Nat} (h : okL l) (i : Nat) : val (l.take i) = val l % BB ^ i := by
  rcases Nat.lt_or_ge l.length i with hl | hl
  · rw [List.take_of_length_le (by omega)]
    exact (Nat.mod_eq_of_lt (Nat.lt_of_lt_of_le (val_lt h) (Nat.pow_le_pow_right (by decide) (by omega)))).symm
  · have e := congrArg val (List.take_append_drop i l)
    rw [val_append, List.length_take, Nat.min_eq_left hl] at e
    rw [← e, Nat.add_mul_mod_self_left]
    have := val_lt (h.take i)
    rw [List.length_take, Nat.min_eq_left hl] at this
    exact (Nat.mod_eq_of_lt this).symm

theorem val_drop {l : List Nat} (h : okL l) (i : Nat) : val (l.drop i) = val l / BB ^ i := by
  rcases Nat.lt_or_ge l.length i with hl | hl
  · rw [List.drop_eq_nil_of_le (by omega)]
    exact (Nat.div_eq_of_lt (Nat.lt_of_lt_of_le (val_lt h) (Nat.pow_le_pow_right (by decide) (by omega)))).symm
  · have e := congrArg val (List.take_append_drop i l)
    rw [val_append, List.length_take, Nat.min_eq_left hl] at e
    rw [← e, Nat.add_mul_div_left _ _ (Nat.pow_pos (by decide))]
    have := val_lt (h.take i)
    rw [List.length_take, Nat.min_eq_left hl] at this
    rw [Nat.div_eq_of_lt this, Nat.zero_add]

theorem val_split {l : List Nat} {i : Nat} (h : i < l.length) : val l = val (l.take i) + BB ^ i * (l.getD i 0 + BB * val (l.drop (i + 1))) := by
  have e := congrArg val (List.take_append_drop i l)
  rw [val_append, List.length_take, Nat.min_eq_left (by omega), List.drop_eq_getElem_cons h] at e
  rw [← e, val]
  simp [List.getD_eq_getElem?_getD, h]

theorem val_lt_of {a b : List Nat} {i : Nat} (ha : okL a) (hb : okL b) (hia : i < a.length) (hib : i < b.length) (hd : a.drop (i + 1) = b.drop (i + 1)) (hlt : a.getD i 0 < b.getD i 0) : val a < val b := by
  rw [val_split hia, val_split hib, hd]
  have h1 := val_lt (ha.take i)
  rw [List.length_take, Nat.min_eq_left (by omega)] at h1
  have h2 : BB ^ i * (a.getD i 0 + BB * val (b.drop (i + 1)) + 1) ≤ BB ^ i * (b.getD i 0 + BB * val (b.drop (i + 1))) := Nat.mul_le_mul_left _ (by omega)
  rw [Nat.mul_add, Nat.mul_one] at h2
  omega

theorem canon.ge {b : List Nat} (hb : canon b) (h : b ≠ []) : BB ^ (b.length - 1) ≤ val b := by
  have e := dg_val hb
  have hne : val b ≠ 0 := fun h0 => h (by rw [← e, h0, dg_zero])
  have := pow_le_of_dg hne
  rwa [e] at this

theorem canon_lt {a b : List Nat} (ha : okL a) (hb : canon b) (h : a.length < b.length) : val a < val b := by
  have h1 := val_lt ha
  have h2 := hb.ge (by rintro rfl; simp at h)
  have h3 : BB ^ a.length ≤ BB ^ (b.length - 1) := Nat.pow_le_pow_right (by decide) (by omega)
  omega

theorem val_inj {a b : List Nat} (ha : canon a) (hb : canon b) (h : val a = val b) : a = b := by rw [← dg_val ha, ← dg_val hb, h]

theorem dg_length_of {l : List Nat} {k : Nat} (hok : okL l) (hk : k ≤ l.length) (hv : val (l.take k) = val l) (hlast : k = 0 ∨ l.getD (k - 1) 0 ≠ 0) : (dg (val l)).length = k := by
  have hc : canon (l.take k) := by
    refine ⟨hok.take k, fun x hx => ?_⟩
    rcases hlast with rfl | h
    · simp at hx
    · by_cases hk0 : k = 0
      · subst hk0; simp at hx
      · rw [List.getLast?_eq_getElem?, List.length_take, Nat.min_eq_left hk, List.getElem?_take, if_pos (by omega)] at hx
        rw [List.getD_eq_getElem?_getD, hx] at h
        exact h
  rw [← hv, dg_val hc, List.length_take, Nat.min_eq_left hk]

theorem take_dg {l : List Nat} (hok : okL l) : l.take (dg (val l)).length = dg (val l) := by
  obtain ⟨k, hk⟩ := dg_append_zeros hok
  conv => lhs; rw [hk]
  rw [List.take_append_of_le_length (by rw [← hk]; exact Nat.le_refl _), ← hk, List.take_length]

end Go.Proofs.YtcdnonggajoghaaDoor.Dec


/- Plain facts: the digits of a text, nine at a time. -/
namespace Go.Proofs.YtcdnonggajoghaaDoor
open Go Go.RowKit
set_option linter.unusedVariables false
set_option linter.unusedSimpArgs false

def isD (x : Nat) : Bool := decide (48 ≤ x) && decide (x ≤ 57)
theorem isD_iff {x : Nat} : isD x = true ↔ 48 ≤ x ∧ x ≤ 57 := by simp [isD]
/-- The bytes of a string. -/
def bts (s : ByteArray) : List Nat := s.data.toList.map (·.toNat)
theorem bts_length (s : ByteArray) : (bts s).length = s.size := by rw [bts, List.length_map]; rfl
theorem strAt_bts (s : ByteArray) (i : Nat) : strAt s i = (((bts s).getD i 0 : Nat) : Int) := by
  simp only [strAt, bts, List.getD_eq_getElem?_getD, List.getElem?_map]
  cases s.data.toList[i]? <;> rfl
theorem bts_lt (s : ByteArray) (i : Nat) : (bts s).getD i 0 < 256 := by
  simp only [bts, List.getD_eq_getElem?_getD, List.getElem?_map]
  cases s.data.toList[i]? with
  | none => simp
  | some x => simpa using x.toNat_lt

theorem bts_inj {s t : ByteArray} (h : bts s = bts t) : s = t := by
  obtain ⟨⟨a⟩⟩ := s
  obtain ⟨⟨b⟩⟩ := t
  congr 2
  refine List.map_inj_right (f := UInt8.toNat) (fun x y hxy => UInt8.toNat_inj.1 hxy) |>.1 h
theorem str_eq (s t : ByteArray) : (s.toList == t.toList) = decide (bts s = bts t) := by
  rw [ByteArray.toList_eq, ByteArray.toList_eq, Bool.eq_iff_iff, decide_eq_true_iff, beq_iff_eq]
  exact ⟨fun h => by rw [bts, h]; rfl, fun h => by rw [bts_inj h]⟩
def badAt (l : List Nat) : Nat := l.findIdx fun x => !isD x
theorem badAt_at {l : List Nat} {i : Nat} (hi : i < l.length) (h : ∀ j, j < i → isD (l.getD j 0) = true) (hb : isD (l.getD i 0) = false) : badAt l = i := by
  have e : ∀ j, (hj : j < l.length) → l.getD j 0 = l[j] := fun j hj => by simp [List.getD_eq_getElem?_getD, hj]
  rw [badAt, List.findIdx_eq hi]
  refine ⟨by rw [← e i hi, hb]; rfl, fun j hj => ?_⟩
  rw [← e j (by omega), h j hj]
  rfl
theorem badAt_none {l : List Nat} (h : ∀ j, j < l.length → isD (l.getD j 0) = true) : badAt l = l.length := by
  rw [badAt, List.findIdx_eq_length]
  intro x hx
  obtain ⟨j, hj, rfl⟩ := List.getElem_of_mem hx
  have := h j hj
  rw [show l.getD j 0 = l[j] by simp [List.getD_eq_getElem?_getD, hj]] at this
  rw [this]
  rfl

/-- The digits, the least one first. -/
def dgs (l : List Nat) : List Nat := (l.map fun x => x - 48).reverse
theorem dgs_length (l : List Nat) : (dgs l).length = l.length := by simp [dgs]
theorem dgs_getD {l : List Nat} {i : Nat} (h : i < l.length) : (dgs l).getD i 0 = l.getD (l.length - 1 - i) 0 - 48 := by
  simp only [dgs, List.getD_eq_getElem?_getD]
  rw [List.getElem?_reverse (by simpa using h), List.length_map, List.getElem?_map, List.getElem?_eq_getElem (show l.length - 1 - i < l.length by omega)]
  rfl
theorem dgs_ok {l : List Nat} (h : ∀ j, j < l.length → isD (l.getD j 0) = true) : Dec.okL (dgs l) := by
  intro x hx
  simp only [dgs, List.mem_reverse, List.mem_map] at hx
  obtain ⟨y, hy, rfl⟩ := hx
  obtain ⟨j, hj, rfl⟩ := List.getElem_of_mem hy
  have := isD_iff.1 (h j hj)
  rw [show l.getD j 0 = l[j] by simp [List.getD_eq_getElem?_getD, hj]] at this
  show l[j] - 48 < 10
  omega

def chunk (D : List Nat) (j : Nat) : Nat := Dec.val ((D.drop (9 * j)).take 9)
def chunks (D : List Nat) (m : Nat) : List Nat := (List.range m).map (chunk D)
theorem chunks_length (D : List Nat) (m : Nat) : (chunks D m).length = m := by simp [chunks]
theorem chunks_succ (D : List Nat) (m : Nat) : chunks D (m + 1) = chunks D m ++ [chunk D m] := by simp [chunks, List.range_succ]
theorem chunks_getD {D : List Nat} {m j : Nat} (h : j < m) : (chunks D m).getD j 0 = chunk D j := by simp [chunks, List.getD_eq_getElem?_getD, h]
theorem chunk_lt {D : List Nat} (h : Dec.okL D) (j : Nat) : chunk D j < BB := by
  have h1 := Dec.val_lt ((h.drop (9 * j)).take 9)
  have h2 : ((D.drop (9 * j)).take 9).length ≤ 9 := by rw [List.length_take]; omega
  have h3 : (10 : Nat) ^ ((D.drop (9 * j)).take 9).length ≤ 10 ^ 9 := Nat.pow_le_pow_right (by decide) h2
  exact Nat.lt_of_lt_of_le h1 h3
theorem chunk_nil {D : List Nat} {j : Nat} (h : D.length ≤ 9 * j) : chunk D j = 0 := by rw [chunk, List.drop_eq_nil_of_le h]; rfl
theorem chunk_take {D : List Nat} {i j : Nat} (h : 9 * j + 9 ≤ i) : chunk (D.take i) j = chunk D j := by
  rw [chunk, chunk, List.drop_take, List.take_take, Nat.min_eq_left (by omega)]
theorem chunk_step {D : List Nat} {i : Nat} (h : i < D.length) : chunk (D.take (i + 1)) (i / 9) = chunk (D.take i) (i / 9) + D.getD i 0 * 10 ^ (i % 9) := by
  have hk : i = 9 * (i / 9) + i % 9 := by omega
  have hlt : i % 9 < 9 := Nat.mod_lt _ (by decide)
  generalize i / 9 = j at *
  generalize i % 9 = k at *
  subst hk
  rw [chunk, chunk, List.drop_take, List.drop_take, List.take_take, List.take_take, Nat.min_eq_right (by omega), Nat.min_eq_right (by omega), show 9 * j + k + 1 - 9 * j = k + 1 by omega, show 9 * j + k - 9 * j = k by omega]
  rw [Dec.val_take_succ (by rw [List.length_drop]; omega)]
  have e : (D.drop (9 * j)).getD k 0 = D.getD (9 * j + k) 0 := by simp only [List.getD_eq_getElem?_getD, List.getElem?_drop]
  rw [e]
  congr 1
  exact Nat.mul_comm _ _
theorem chunks_add {D : List Nat} {j : Nat} (h : D.length = 9 * j) : chunks D j ++ [0] = chunks D (j + 1) := by
  rw [chunks_succ, chunk_nil (by omega)]
theorem chunks_set {D : List Nat} {i : Nat} (h : i < D.length) : (chunks (D.take i) (i / 9 + 1)).set (i / 9) (chunk (D.take i) (i / 9) + D.getD i 0 * 10 ^ (i % 9)) = chunks (D.take (i + 1)) (i / 9 + 1) := by
  rw [← chunk_step h, chunks_succ, chunks_succ, List.set_append_right _ _ (by rw [chunks_length]; exact Nat.le_refl _), chunks_length, Nat.sub_self, List.set_cons_zero]
  congr 1
  refine List.map_congr_left fun j hj => ?_
  have := List.mem_range.1 hj
  rw [chunk_take (by omega), chunk_take (by omega)]
theorem val_chunks (D : List Nat) (m : Nat) : val (chunks D m) = Dec.val (D.take (9 * m)) := by
  induction m with
  | zero => rfl
  | succ m ih =>
    rw [chunks_succ, val_append, chunks_length, ih, Nat.mul_add, List.take_add, Dec.val_append, List.length_take]
    rcases Nat.le_total (9 * m) D.length with h | h
    · rw [Nat.min_eq_left h]
      have e : (10 : Nat) ^ (9 * m) = BB ^ m := by rw [Nat.pow_mul]
      show Dec.val _ + BB ^ m * (chunk D m + BB * 0) = Dec.val _ + 10 ^ (9 * m) * chunk D m
      rw [e, Nat.mul_zero, Nat.add_zero]
    · have : chunk D m = 0 := chunk_nil h
      rw [show Dec.val ((D.drop (9 * m)).take (9 * 1)) = chunk D m from rfl, this]
      rfl
theorem okL_chunks {D : List Nat} (h : Dec.okL D) (m : Nat) : okL (chunks D m) := by
  intro x hx
  obtain ⟨j, _, rfl⟩ := List.mem_map.1 hx
  exact chunk_lt h j
theorem dec_pos {l : List Nat} {k : Nat} (h : l.length = k + 1) (h0 : l.getD k 0 ≠ 0) : Dec.val l ≠ 0 := by
  have h1 := Dec.val_take_succ (l := l) (i := k) (by omega)
  rw [List.take_of_length_le (by omega)] at h1
  have h2 : 0 < Dec.BB ^ k * l.getD k 0 := Nat.mul_pos (Nat.pow_pos (by decide)) (Nat.pos_of_ne_zero h0)
  omega
theorem canon_chunks {D : List Nat} (h : Dec.okL D) (hn : D.length ≠ 0) (h0 : D.getD (D.length - 1) 0 ≠ 0) : canon (chunks D ((D.length + 8) / 9)) := by
  refine ⟨okL_chunks h _, fun x hx => ?_⟩
  obtain ⟨m, hm⟩ : ∃ m, (D.length + 8) / 9 = m + 1 := ⟨(D.length + 8) / 9 - 1, by omega⟩
  rw [hm, chunks_succ, List.getLast?_append, List.getLast?_singleton] at hx
  obtain rfl := Option.some.inj hx
  have hl : ((D.drop (9 * m)).take 9).length = (D.length - 9 * m - 1) + 1 := by rw [List.length_take, List.length_drop]; omega
  refine dec_pos hl ?_
  have : (D.length - 9 * m - 1) < 9 := by omega
  simp only [List.getD_eq_getElem?_getD, List.getElem?_take, List.getElem?_drop] at h0 ⊢
  rw [if_pos this, show 9 * m + (D.length - 9 * m - 1) = D.length - 1 by omega]
  exact h0
/-- The document's walk: a chunk read from its first digit on. -/
theorem seg_step {D : List Nat} {n p : Nat} (hp : p < D.length) : Dec.val ((D.drop p).take (n + 1)) = D.getD p 0 + 10 * Dec.val ((D.drop (p + 1)).take n) := by
  rw [List.drop_eq_getElem_cons hp, List.take_succ_cons, Dec.val]
  simp [List.getD_eq_getElem?_getD, hp]

/-- Which number a text is, or which fault it has. -/
def parseN (l : List Nat) : Nat × Int × Int :=
  if 9216 < l.length then (0, 4, 9216) else if badAt l < l.length then (0, 11, badAt l)
  else if l.length = 0 ∨ (1 < l.length ∧ l.getD 0 0 = 48) then (0, 11, 0) else (Dec.val (dgs l), 0, 0)
end Go.Proofs.YtcdnonggajoghaaDoor


/- What a walk does by itself, more of it. -/
namespace Go.Proofs.YtcdnonggajoghaaDoor
open Go Go.RowKit
set_option linter.unusedVariables false

theorem VB.self {i : Int} {A B : Prop} (h : A) : VB (i == i) A B := by rw [beq_self_eq_true]; exact VB.tt h
theorem VB.nself {i : Int} {A B : Prop} (h : B) : VB (i != i) A B := by rw [bne_self_eq_false]; exact VB.ff h
theorem VB.id {b : Bool} {A B : Prop} (h : VB b A B) : VB b A B := h
theorem bneI (a : Int) : (a != a) = false := bne_self_eq_false a
theorem beqI (a : Int) : (a == a) = true := beq_self_eq_true a
theorem VB.dt {p : Prop} [Decidable p] {A B : Prop} (hp : p) (h : A) : VB (decide p) A B := by rw [decide_eq_true hp]; exact VB.tt h
theorem VB.df {p : Prop} [Decidable p] {A B : Prop} (hp : ¬ p) (h : B) : VB (decide p) A B := by rw [decide_eq_false hp]; exact VB.ff h
theorem VB.et {a b : Int} {A B : Prop} (hp : a = b) (h : A) : VB (a == b) A B := by subst hp; exact VB.self h
theorem VB.ef {a b : Int} {A B : Prop} (hp : a ≠ b) (h : B) : VB (a == b) A B := by rw [beq_eq_false_iff_ne.2 hp]; exact VB.ff h
theorem VB.nt {a b : Int} {A B : Prop} (hp : a ≠ b) (h : A) : VB (a != b) A B := by rw [bne_iff_ne.2 hp]; exact VB.tt h
theorem VB.nf {a b : Int} {A B : Prop} (hp : a = b) (h : B) : VB (a != b) A B := by subst hp; exact VB.nself h
theorem VDraw.meets {E : Env} {N : Nat} {rd : Option Nat} {id : Nat} {ops : Array Oper} {Q : Exit → St → Prop} {s s0 : St} (h : VDraw E N rd id ops Q s0) (hm : Meets s0 s) : VDraw E N rd id ops Q s := by
  have e : s0 = ⟨s0.fr, s.H, s.df⟩ := by rw [hm.H, hm.df]
  rw [e] at h
  exact ⟨h.run.forget hm.fr⟩
end Go.Proofs.YtcdnonggajoghaaDoor


/- Contracts: reading a number. -/
namespace Go.Proofs.YtcdnonggajoghaaDoor
open Go Go.RowKit
set_option linter.unusedVariables false
set_option linter.unusedSimpArgs false
set_option maxRecDepth 100000

def pnV (p : Nat × Int × Int) : AV := .tup [natv p.1, .agg [.int .i64 p.2.1, .int .i64 p.2.2]]

/-- A list of limbs in block b, or none. -/
def acV (b : Nat) : List Nat → AV
  | [] => .nsl
  | x :: l => .osl b l.length 0 (l.length + 1) 1
def acH (T : TypeId) : List Nat → Heap
  | [] => []
  | x :: l => [.cells l.length T (limbs (x :: l))]

theorem u8sub (x : Nat) (h : 48 ≤ x) : ((x : Int) - 48) = ((x - 48 : Nat) : Int) := by omega

set_option maxHeartbeats 4000000 in
theorem rparse_c (s : ByteArray) (hs : s.size < 1000000000000000000) : VCall EE 29 [.str s] [] fun v H => Fz H 0 [] v (pnV (parseN (bts s))) := by
  refine VCall.of_body true Tryd.func29 rfl (by decide) rfl ?_
  have hl := bts_length s
  repeat' ((conv => whnf); first | refine ngo ?_ | refine VB.tt ?_ | refine VB.ff ?_ | refine VNew.keep ?_ | refine dgo ?_ | refine sgo ?_ | fail)
  conv => whnf
  refine VB.dec (fun h => ?_) (fun h => ?_)
  · repeat' ((conv => whnf); first | refine ngo ?_ | refine VB.tt ?_ | refine VB.ff ?_ | refine VNew.keep ?_ | refine dgo ?_ | refine sgo ?_ | fail)
    conv => whnf
    rw [pnV, parseN, if_pos (by omega)]
    repeat' (first | exact fz_nil0 | exact Fz.nsl | exact Fz.same rfl (by repeat' (first | exact trivial | exact low_natL 0 _ | exact low_limbs 0 _ | refine And.intro ?_ ?_ | fail)) | refine Fz.tup ?_ | refine FzL.cons ?_ ?_ | exact FzL.nil | fail)
  rw [parseN, if_neg (by omega)]
  repeat' ((conv => whnf); first | refine ngo ?_ | refine VB.tt ?_ | refine VB.ff ?_ | refine VNew.keep ?_ | refine dgo ?_ | refine sgo ?_ | fail)
  conv => whnf
  refine VLoop.ix true (fun i : Nat => ⟨[(0, .str s), (2, .nsl), (3, .ptr 0 0 0), (4, .int .i64 i)], [.cells 0 40 [.int .i64 0, .int .i64 0]], []⟩) (fun i => i ≤ s.size ∧ ∀ j, j < i → isD ((bts s).getD j 0) = true) (fun i => s.size - i) 0 ⟨Nat.zero_le _, fun j hj => absurd hj (Nat.not_lt_zero _)⟩ ⟨⟨rfl, rfl, rfl, rfl, trivial⟩, rfl, rfl⟩ ?_
  rintro i ⟨hi, hg⟩
  repeat' ((conv => whnf); first | refine ngo ?_ | refine VB.tt ?_ | refine VB.ff ?_ | refine VNew.keep ?_ | refine dgo ?_ | refine sgo ?_ | fail)
  conv => whnf
  refine VB.dec (fun h2 => ?_) (fun h2 => ?_)
  · repeat' ((conv => whnf); first | refine ngo ?_ | refine VB.tt ?_ | refine VB.ff ?_ | refine VNew.keep ?_ | refine dgo ?_ | refine sgo ?_ | fail)
    conv => whnf
    rw [Int.toNat_natCast, strAt_bts]
    generalize hx : (bts s).getD i 0 = x at *
    have bad : isD x = false → badAt (bts s) = i := fun hb => badAt_at (by omega) hg (by rw [hx]; exact hb)
    repeat' ((conv => whnf); first | refine ngo ?_ | refine VB.tt ?_ | refine VB.ff ?_ | refine VNew.keep ?_ | refine dgo ?_ | refine sgo ?_ | fail)
    conv => whnf
    by_cases h3 : (x : Int) < 48
    · rw [decide_eq_true h3]
      repeat' ((conv => whnf); first | refine ngo ?_ | refine VB.tt ?_ | refine VB.ff ?_ | refine VNew.keep ?_ | refine dgo ?_ | refine sgo ?_ | fail)
      conv => whnf
      rw [bad (by simp [isD]; omega), if_pos (by omega)]
      repeat' (first | exact fz_nil0 | exact Fz.nsl | exact Fz.same rfl (by repeat' (first | exact trivial | exact low_natL 0 _ | exact low_limbs 0 _ | refine And.intro ?_ ?_ | fail)) | refine Fz.tup ?_ | refine FzL.cons ?_ ?_ | exact FzL.nil | fail)
    rw [decide_eq_false h3]
    repeat' ((conv => whnf); first | refine ngo ?_ | refine VB.tt ?_ | refine VB.ff ?_ | refine VNew.keep ?_ | refine dgo ?_ | refine sgo ?_ | fail)
    conv => whnf
    rw [Int.toNat_natCast, strAt_bts, hx]
    repeat' ((conv => whnf); first | refine ngo ?_ | refine VB.tt ?_ | refine VB.ff ?_ | refine VNew.keep ?_ | refine dgo ?_ | refine sgo ?_ | fail)
    conv => whnf
    by_cases h4 : (x : Int) > 57
    · rw [decide_eq_true h4]
      repeat' ((conv => whnf); first | refine ngo ?_ | refine VB.tt ?_ | refine VB.ff ?_ | refine VNew.keep ?_ | refine dgo ?_ | refine sgo ?_ | fail)
      conv => whnf
      rw [bad (by simp [isD]; omega), if_pos (by omega)]
      repeat' (first | exact fz_nil0 | exact Fz.nsl | exact Fz.same rfl (by repeat' (first | exact trivial | exact low_natL 0 _ | exact low_limbs 0 _ | refine And.intro ?_ ?_ | fail)) | refine Fz.tup ?_ | refine FzL.cons ?_ ?_ | exact FzL.nil | fail)
    rw [decide_eq_false h4]
    repeat' ((conv => whnf); first | refine ngo ?_ | refine VB.tt ?_ | refine VB.ff ?_ | refine VNew.keep ?_ | refine dgo ?_ | refine sgo ?_ | fail)
    conv => whnf
    refine ⟨i + 1, ⟨by omega, fun j hj => ?_⟩, by omega, ⟨⟨rfl, rfl, rfl, by simp [lk], trivial⟩, rfl, rfl⟩⟩
    rcases Nat.lt_or_ge j i with hj2 | hj2
    · exact hg j hj2
    · obtain rfl : j = i := by omega
      rw [hx]
      exact isD_iff.2 ⟨by omega, by omega⟩
  · obtain rfl : i = s.size := by omega
    have hg : ∀ j, j < (bts s).length → isD ((bts s).getD j 0) = true := by rw [hl]; exact hg
    rw [if_neg (by rw [badAt_none hg]; omega)]
    repeat' ((conv => whnf); first | refine ngo ?_ | refine VB.tt ?_ | refine VB.ff ?_ | refine VNew.keep ?_ | refine dgo ?_ | refine sgo ?_ | fail)
    conv => whnf
    by_cases h3 : (s.size : Int) = 0
    · rw [beq_iff_eq.2 h3]
      repeat' ((conv => whnf); first | refine ngo ?_ | refine VB.tt ?_ | refine VB.ff ?_ | refine VNew.keep ?_ | refine dgo ?_ | refine sgo ?_ | fail)
      conv => whnf
      rw [if_pos (.inl (by omega))]
      repeat' (first | exact fz_nil0 | exact Fz.nsl | exact Fz.same rfl (by repeat' (first | exact trivial | exact low_natL 0 _ | exact low_limbs 0 _ | refine And.intro ?_ ?_ | fail)) | refine Fz.tup ?_ | refine FzL.cons ?_ ?_ | exact FzL.nil | fail)
    rw [beq_eq_false_iff_ne.2 h3]
    repeat' ((conv => whnf); first | refine ngo ?_ | refine VB.tt ?_ | refine VB.ff ?_ | refine VNew.keep ?_ | refine dgo ?_ | refine sgo ?_ | fail)
    conv => whnf
    have hok := dgs_ok hg
    have hDl : (dgs (bts s)).length = s.size := by rw [dgs_length, hl]
    have hDg : ∀ p, p < s.size → (dgs (bts s)).getD (s.size - 1 - p) 0 = (bts s).getD p 0 - 48 := fun p hp => by
      rw [dgs_getD (by omega), hl, show s.size - 1 - (s.size - 1 - p) = p by omega]
    by_cases h4 : (s.size : Int) > 1
    · rw [decide_eq_true h4]
      repeat' ((conv => whnf); first | refine ngo ?_ | refine VB.tt ?_ | refine VB.ff ?_ | refine VNew.keep ?_ | refine dgo ?_ | refine sgo ?_ | fail)
      conv => whnf
      rw [Int.toNat_zero, strAt_bts]
      by_cases h5 : (bts s).getD 0 0 = 48
      · rw [h5]
        repeat' ((conv => whnf); first | refine ngo ?_ | refine VB.tt ?_ | refine VB.ff ?_ | refine VNew.keep ?_ | refine dgo ?_ | refine sgo ?_ | fail)
        conv => whnf
        rw [if_pos (.inr ⟨by omega, rfl⟩)]
        repeat' (first | exact fz_nil0 | exact Fz.nsl | exact Fz.same rfl (by repeat' (first | exact trivial | exact low_natL 0 _ | exact low_limbs 0 _ | refine And.intro ?_ ?_ | fail)) | refine Fz.tup ?_ | refine FzL.cons ?_ ?_ | exact FzL.nil | fail)
      rw [beq_eq_false_iff_ne.2 (show (((bts s).getD 0 0 : Nat) : Int) ≠ 48 by omega), if_neg (by omega)]
      repeat' ((conv => whnf); first | refine ngo ?_ | refine VB.tt ?_ | refine VB.ff ?_ | refine VNew.keep ?_ | refine dgo ?_ | refine sgo ?_ | fail)
      conv => whnf
      refine VLoop.tr true (fun x : List Nat × Nat => ⟨[(0, .str s), (3, .ptr 0 0 0), (5, acV 1 x.1), (6, .int .i64 ((s.size : Int) - 9 * x.2))], .cells 0 40 [.int .i64 0, .int .i64 0] :: acH 30 x.1, []⟩) (fun x => x.1 = chunks (dgs (bts s)) x.2 ∧ 9 * x.2 ≤ s.size + 8) (fun x => s.size + 9 - 9 * x.2) ([], 0) ⟨rfl, by omega⟩ ⟨⟨rfl, rfl, rfl, by simp [lk], trivial⟩, rfl, rfl⟩ ?_
      rintro ⟨l, m⟩ ⟨hlm, hm⟩
      dsimp only at hlm hm ⊢
      repeat' ((conv => whnf); first | refine ngo ?_ | refine VB.tt ?_ | refine VB.ff ?_ | refine VNew.keep ?_ | refine dgo ?_ | refine sgo ?_ | fail)
      conv => whnf
      refine VB.dec (fun h6 => ?_) (fun h6 => ?_)
      · have hml : 9 * m < s.size := by omega
        obtain ⟨e, he⟩ : ∃ e, s.size = 9 * m + e := ⟨s.size - 9 * m, by omega⟩
        obtain ⟨lo, hlo⟩ : ∃ lo, lo = e - 9 := ⟨_, rfl⟩
        repeat' ((conv => whnf); first | refine ngo ?_ | refine VB.tt ?_ | refine VB.ff ?_ | refine VNew.keep ?_ | refine dgo ?_ | refine sgo ?_ | fail)
        conv => whnf
        refine VLoop.ix true (fun p : Nat => ⟨[(0, .str s), (3, .ptr 0 0 0), (5, acV 1 l), (6, .int .i64 ((s.size : Int) - 9 * m)), (7, .int .u32 (Dec.val (((dgs (bts s)).drop (s.size - (lo + p))).take p) : Nat)), (8, .int .i64 ((lo + p : Nat)))], .cells 0 40 [.int .i64 0, .int .i64 0] :: acH 30 l, []⟩) (fun p => lo + p ≤ e) (fun p => e - p) 0 (by omega) ⟨⟨rfl, rfl, rfl, rfl, rfl, by simp only [lk]; exact congrArg (fun z => some (AV.int .i64 z)) (by omega), trivial⟩, rfl, rfl⟩ ?_
        rintro p hp
        have hX : Dec.val (((dgs (bts s)).drop (s.size - (lo + p))).take p) < 10 ^ p := by
          have h7 := Dec.val_lt ((hok.drop (s.size - (lo + p))).take p)
          have h8 : (10 : Nat) ^ (((dgs (bts s)).drop (s.size - (lo + p))).take p).length ≤ 10 ^ p := Nat.pow_le_pow_right (by decide) (by rw [List.length_take]; omega)
          exact Nat.lt_of_lt_of_le h7 h8
        repeat' ((conv => whnf); first | refine ngo ?_ | refine VB.tt ?_ | refine VB.ff ?_ | refine VNew.keep ?_ | refine dgo ?_ | refine sgo ?_ | fail)
        conv => whnf
        refine VB.dec (fun h7 => ?_) (fun h7 => ?_)
        · have hst := seg_step (D := dgs (bts s)) (n := p) (p := s.size - 1 - (lo + p)) (by omega)
          rw [hDg (lo + p) (by omega), show s.size - 1 - (lo + p) + 1 = s.size - (lo + p) by omega] at hst
          have hd := isD_iff.1 (hg (lo + p) (by omega))
          have hp9 : (10 : Nat) ^ p ≤ 10 ^ 8 := Nat.pow_le_pow_right (by decide) (by omega)
          have hp8 : (10 : Nat) ^ 8 = 100000000 := rfl
          generalize hXX : Dec.val (((dgs (bts s)).drop (s.size - (lo + p))).take p) = X at *
          repeat' ((conv => whnf); first | refine ngo ?_ | refine VB.tt ?_ | refine VB.ff ?_ | refine VNew.keep ?_ | refine dgo ?_ | refine sgo ?_ | fail)
          conv => whnf
          rw [Int.toNat_natCast, strAt_bts]
          generalize (bts s).getD (lo + p) 0 = d at *
          repeat' ((conv => whnf); first | refine ngo ?_ | refine VB.tt ?_ | refine VB.ff ?_ | refine VNew.keep ?_ | refine dgo ?_ | refine sgo ?_ | fail)
          conv => whnf
          refine ⟨p + 1, by omega, by omega, ⟨⟨rfl, rfl, rfl, rfl, by simp only [lk]; exact congrArg (fun z => some (AV.int .u32 z)) (by rw [show s.size - (lo + (p + 1)) = s.size - 1 - (lo + p) by omega, hst]; omega), by simp only [lk]; exact congrArg (fun z => some (AV.int .i64 z)) (by omega), trivial⟩, rfl, rfl⟩⟩
        · obtain rfl : lo + p = e := by omega
          have hce : Dec.val (((dgs (bts s)).drop (s.size - (lo + p))).take p) = chunk (dgs (bts s)) m := by
            rw [chunk, show s.size - (lo + p) = 9 * m by omega]
            rcases (by omega : p = 9 ∨ (p < 9 ∧ lo = 0)) with rfl | ⟨h8, rfl⟩
            · rfl
            · rw [List.take_of_length_le (by rw [List.length_drop]; omega), List.take_of_length_le (by rw [List.length_drop]; omega)]
          rw [hce] at hX ⊢
          have hcl := chunk_lt hok m
          have hBB : BB = 1000000000 := rfl
          have hsucc := chunks_succ (dgs (bts s)) m
          generalize chunk (dgs (bts s)) m = x at *
          repeat' ((conv => whnf); first | refine ngo ?_ | refine VB.tt ?_ | refine VB.ff ?_ | refine VNew.keep ?_ | refine dgo ?_ | refine sgo ?_ | fail)
          conv => whnf
          have hll := congrArg List.length hlm
          rw [chunks_length] at hll
          cases l with
          | nil =>
            repeat' ((conv => whnf); first | refine ngo ?_ | refine VB.tt ?_ | refine VB.ff ?_ | refine VNew.keep ?_ | refine dgo ?_ | refine sgo ?_ | fail)
            conv => whnf
            refine ⟨([x], m + 1), ⟨by dsimp only; rw [hsucc, ← hlm]; rfl, by dsimp only; omega⟩, by dsimp only; omega, [2], by simp, by simp, ⟨⟨_, rfl, .cells rfl (FzL.same rfl ⟨trivial, trivial, trivial⟩)⟩, ⟨_, rfl, .cells rfl (FzL.same rfl (low_limbs _ [x]))⟩, trivial⟩, ⟨⟨_, rfl, .same rfl trivial⟩, ⟨_, rfl, .same rfl Nat.zero_lt_one⟩, ⟨_, rfl, .kosl (j := 0) rfl rfl rfl rfl⟩, ⟨_, rfl, .same (by congr 1; omega) trivial⟩, trivial⟩, rfl, by simp⟩
          | cons y l =>
            simp only [List.length_cons] at hll
            repeat' ((conv => whnf); first | refine ngo ?_ | refine VB.tt ?_ | refine VB.ff ?_ | refine VNew.keep ?_ | refine dgo ?_ | refine sgo ?_ | fail)
            conv => whnf
            refine ⟨(y :: l ++ [x], m + 1), ⟨by dsimp only; rw [hsucc, ← hlm], by dsimp only; omega⟩, by dsimp only; omega, [1], by simp, by simp, ⟨⟨_, rfl, .cells rfl (FzL.same rfl ⟨trivial, trivial, trivial⟩)⟩, ⟨_, rfl, .cells (by simp) (FzL.same ?_ (low_limbs _ (y :: l ++ [x])))⟩, trivial⟩, ⟨⟨_, rfl, .same rfl trivial⟩, ⟨_, rfl, .same rfl Nat.zero_lt_one⟩, ⟨_, rfl, .kosl (j := 0) rfl rfl (by simp) (by simp)⟩, ⟨_, rfl, .same (by congr 1; omega) trivial⟩, trivial⟩, rfl, by simp⟩
            rw [Nat.mul_one, List.take_of_length_le (by simp [limbs])]
            simp [limbs]
      · have hvl : val l = Dec.val (dgs (bts s)) := by rw [hlm, val_chunks, List.take_of_length_le (by omega)]
        have hokl : okL l := by rw [hlm]; exact okL_chunks hok m
        have hll := congrArg List.length hlm
        rw [chunks_length] at hll
        repeat' ((conv => whnf); first | refine ngo ?_ | refine VB.tt ?_ | refine VB.ff ?_ | refine VNew.keep ?_ | refine dgo ?_ | refine sgo ?_ | fail)
        conv => whnf
        cases l with
        | nil =>
          repeat' ((conv => whnf); first | refine ngo ?_ | refine VB.tt ?_ | refine VB.ff ?_ | refine VNew.keep ?_ | refine dgo ?_ | refine sgo ?_ | fail)
          conv => whnf
          show VCall EE _ [.nsl] [.cells 0 40 [.int .i64 0, .int .i64 0]] _
          refine VCall.mono ?_ rtrim_nil
          rintro v H ⟨rfl, rfl⟩
          repeat' ((conv => whnf); first | refine ngo ?_ | refine VB.tt ?_ | refine VB.ff ?_ | refine VNew.keep ?_ | refine dgo ?_ | refine sgo ?_ | fail)
          conv => whnf
          rw [← hvl]
          repeat' (first | exact fz_nil0 | exact Fz.nsl | exact Fz.same rfl (by repeat' (first | exact trivial | exact low_natL 0 _ | exact low_limbs 0 _ | refine And.intro ?_ ?_ | fail)) | refine Fz.tup ?_ | refine FzL.cons ?_ ?_ | exact FzL.nil | fail)
        | cons y l =>
          repeat' ((conv => whnf); first | refine ngo ?_ | refine VB.tt ?_ | refine VB.ff ?_ | refine VNew.keep ?_ | refine dgo ?_ | refine sgo ?_ | fail)
          conv => whnf
          show VCall EE _ [.osl 1 l.length 0 (l.length + 1) 1] [.cells 0 40 [.int .i64 0, .int .i64 0], .cells l.length 30 (limbs (y :: l))] _
          refine VCall.mono ?_ (rtrim_own rfl hokl (by simp) (by simp only [List.length_cons] at hll; omega))
          rintro v H ⟨rfl, rfl⟩
          rw [show List.take (l.length + 1) (y :: l) = y :: l from List.take_of_length_le (by simp), hvl]
          repeat' ((conv => whnf); first | refine ngo ?_ | refine VB.tt ?_ | refine VB.ff ?_ | refine VNew.keep ?_ | refine dgo ?_ | refine sgo ?_ | fail)
          conv => whnf
          refine .tup (.cons ?_ (.cons (.same rfl ⟨trivial, trivial, trivial⟩) .nil))
          refine Fz.nat (l := dg (Dec.val (dgs (bts s)))) (Nat.zero_le _) (by simp) rfl ?_ rfl
          rw [Nat.mul_one, limbs_take, ← hvl, take_dg hokl]
    · rw [decide_eq_false h4, if_neg (by omega)]
      repeat' ((conv => whnf); first | refine ngo ?_ | refine VB.tt ?_ | refine VB.ff ?_ | refine VNew.keep ?_ | refine dgo ?_ | refine sgo ?_ | fail)
      conv => whnf
      refine VLoop.tr true (fun x : List Nat × Nat => ⟨[(0, .str s), (3, .ptr 0 0 0), (5, acV 1 x.1), (6, .int .i64 ((s.size : Int) - 9 * x.2))], .cells 0 40 [.int .i64 0, .int .i64 0] :: acH 30 x.1, []⟩) (fun x => x.1 = chunks (dgs (bts s)) x.2 ∧ 9 * x.2 ≤ s.size + 8) (fun x => s.size + 9 - 9 * x.2) ([], 0) ⟨rfl, by omega⟩ ⟨⟨rfl, rfl, rfl, by simp [lk], trivial⟩, rfl, rfl⟩ ?_
      rintro ⟨l, m⟩ ⟨hlm, hm⟩
      dsimp only at hlm hm ⊢
      repeat' ((conv => whnf); first | refine ngo ?_ | refine VB.tt ?_ | refine VB.ff ?_ | refine VNew.keep ?_ | refine dgo ?_ | refine sgo ?_ | fail)
      conv => whnf
      refine VB.dec (fun h6 => ?_) (fun h6 => ?_)
      · have hml : 9 * m < s.size := by omega
        obtain ⟨e, he⟩ : ∃ e, s.size = 9 * m + e := ⟨s.size - 9 * m, by omega⟩
        obtain ⟨lo, hlo⟩ : ∃ lo, lo = e - 9 := ⟨_, rfl⟩
        repeat' ((conv => whnf); first | refine ngo ?_ | refine VB.tt ?_ | refine VB.ff ?_ | refine VNew.keep ?_ | refine dgo ?_ | refine sgo ?_ | fail)
        conv => whnf
        refine VLoop.ix true (fun p : Nat => ⟨[(0, .str s), (3, .ptr 0 0 0), (5, acV 1 l), (6, .int .i64 ((s.size : Int) - 9 * m)), (7, .int .u32 (Dec.val (((dgs (bts s)).drop (s.size - (lo + p))).take p) : Nat)), (8, .int .i64 ((lo + p : Nat)))], .cells 0 40 [.int .i64 0, .int .i64 0] :: acH 30 l, []⟩) (fun p => lo + p ≤ e) (fun p => e - p) 0 (by omega) ⟨⟨rfl, rfl, rfl, rfl, rfl, by simp only [lk]; exact congrArg (fun z => some (AV.int .i64 z)) (by omega), trivial⟩, rfl, rfl⟩ ?_
        rintro p hp
        have hX : Dec.val (((dgs (bts s)).drop (s.size - (lo + p))).take p) < 10 ^ p := by
          have h7 := Dec.val_lt ((hok.drop (s.size - (lo + p))).take p)
          have h8 : (10 : Nat) ^ (((dgs (bts s)).drop (s.size - (lo + p))).take p).length ≤ 10 ^ p := Nat.pow_le_pow_right (by decide) (by rw [List.length_take]; omega)
          exact Nat.lt_of_lt_of_le h7 h8
        repeat' ((conv => whnf); first | refine ngo ?_ | refine VB.tt ?_ | refine VB.ff ?_ | refine VNew.keep ?_ | refine dgo ?_ | refine sgo ?_ | fail)
        conv => whnf
        refine VB.dec (fun h7 => ?_) (fun h7 => ?_)
        · have hst := seg_step (D := dgs (bts s)) (n := p) (p := s.size - 1 - (lo + p)) (by omega)
          rw [hDg (lo + p) (by omega), show s.size - 1 - (lo + p) + 1 = s.size - (lo + p) by omega] at hst
          have hd := isD_iff.1 (hg (lo + p) (by omega))
          have hp9 : (10 : Nat) ^ p ≤ 10 ^ 8 := Nat.pow_le_pow_right (by decide) (by omega)
          have hp8 : (10 : Nat) ^ 8 = 100000000 := rfl
          generalize hXX : Dec.val (((dgs (bts s)).drop (s.size - (lo + p))).take p) = X at *
          repeat' ((conv => whnf); first | refine ngo ?_ | refine VB.tt ?_ | refine VB.ff ?_ | refine VNew.keep ?_ | refine dgo ?_ | refine sgo ?_ | fail)
          conv => whnf
          rw [Int.toNat_natCast, strAt_bts]
          generalize (bts s).getD (lo + p) 0 = d at *
          repeat' ((conv => whnf); first | refine ngo ?_ | refine VB.tt ?_ | refine VB.ff ?_ | refine VNew.keep ?_ | refine dgo ?_ | refine sgo ?_ | fail)
          conv => whnf
          refine ⟨p + 1, by omega, by omega, ⟨⟨rfl, rfl, rfl, rfl, by simp only [lk]; exact congrArg (fun z => some (AV.int .u32 z)) (by rw [show s.size - (lo + (p + 1)) = s.size - 1 - (lo + p) by omega, hst]; omega), by simp only [lk]; exact congrArg (fun z => some (AV.int .i64 z)) (by omega), trivial⟩, rfl, rfl⟩⟩
        · obtain rfl : lo + p = e := by omega
          have hce : Dec.val (((dgs (bts s)).drop (s.size - (lo + p))).take p) = chunk (dgs (bts s)) m := by
            rw [chunk, show s.size - (lo + p) = 9 * m by omega]
            rcases (by omega : p = 9 ∨ (p < 9 ∧ lo = 0)) with rfl | ⟨h8, rfl⟩
            · rfl
            · rw [List.take_of_length_le (by rw [List.length_drop]; omega), List.take_of_length_le (by rw [List.length_drop]; omega)]
          rw [hce] at hX ⊢
          have hcl := chunk_lt hok m
          have hBB : BB = 1000000000 := rfl
          have hsucc := chunks_succ (dgs (bts s)) m
          generalize chunk (dgs (bts s)) m = x at *
          repeat' ((conv => whnf); first | refine ngo ?_ | refine VB.tt ?_ | refine VB.ff ?_ | refine VNew.keep ?_ | refine dgo ?_ | refine sgo ?_ | fail)
          conv => whnf
          have hll := congrArg List.length hlm
          rw [chunks_length] at hll
          cases l with
          | nil =>
            repeat' ((conv => whnf); first | refine ngo ?_ | refine VB.tt ?_ | refine VB.ff ?_ | refine VNew.keep ?_ | refine dgo ?_ | refine sgo ?_ | fail)
            conv => whnf
            refine ⟨([x], m + 1), ⟨by dsimp only; rw [hsucc, ← hlm]; rfl, by dsimp only; omega⟩, by dsimp only; omega, [2], by simp, by simp, ⟨⟨_, rfl, .cells rfl (FzL.same rfl ⟨trivial, trivial, trivial⟩)⟩, ⟨_, rfl, .cells rfl (FzL.same rfl (low_limbs _ [x]))⟩, trivial⟩, ⟨⟨_, rfl, .same rfl trivial⟩, ⟨_, rfl, .same rfl Nat.zero_lt_one⟩, ⟨_, rfl, .kosl (j := 0) rfl rfl rfl rfl⟩, ⟨_, rfl, .same (by congr 1; omega) trivial⟩, trivial⟩, rfl, by simp⟩
          | cons y l =>
            simp only [List.length_cons] at hll
            repeat' ((conv => whnf); first | refine ngo ?_ | refine VB.tt ?_ | refine VB.ff ?_ | refine VNew.keep ?_ | refine dgo ?_ | refine sgo ?_ | fail)
            conv => whnf
            refine ⟨(y :: l ++ [x], m + 1), ⟨by dsimp only; rw [hsucc, ← hlm], by dsimp only; omega⟩, by dsimp only; omega, [1], by simp, by simp, ⟨⟨_, rfl, .cells rfl (FzL.same rfl ⟨trivial, trivial, trivial⟩)⟩, ⟨_, rfl, .cells (by simp) (FzL.same ?_ (low_limbs _ (y :: l ++ [x])))⟩, trivial⟩, ⟨⟨_, rfl, .same rfl trivial⟩, ⟨_, rfl, .same rfl Nat.zero_lt_one⟩, ⟨_, rfl, .kosl (j := 0) rfl rfl (by simp) (by simp)⟩, ⟨_, rfl, .same (by congr 1; omega) trivial⟩, trivial⟩, rfl, by simp⟩
            rw [Nat.mul_one, List.take_of_length_le (by simp [limbs])]
            simp [limbs]
      · have hvl : val l = Dec.val (dgs (bts s)) := by rw [hlm, val_chunks, List.take_of_length_le (by omega)]
        have hokl : okL l := by rw [hlm]; exact okL_chunks hok m
        have hll := congrArg List.length hlm
        rw [chunks_length] at hll
        repeat' ((conv => whnf); first | refine ngo ?_ | refine VB.tt ?_ | refine VB.ff ?_ | refine VNew.keep ?_ | refine dgo ?_ | refine sgo ?_ | fail)
        conv => whnf
        cases l with
        | nil =>
          repeat' ((conv => whnf); first | refine ngo ?_ | refine VB.tt ?_ | refine VB.ff ?_ | refine VNew.keep ?_ | refine dgo ?_ | refine sgo ?_ | fail)
          conv => whnf
          show VCall EE _ [.nsl] [.cells 0 40 [.int .i64 0, .int .i64 0]] _
          refine VCall.mono ?_ rtrim_nil
          rintro v H ⟨rfl, rfl⟩
          repeat' ((conv => whnf); first | refine ngo ?_ | refine VB.tt ?_ | refine VB.ff ?_ | refine VNew.keep ?_ | refine dgo ?_ | refine sgo ?_ | fail)
          conv => whnf
          rw [← hvl]
          repeat' (first | exact fz_nil0 | exact Fz.nsl | exact Fz.same rfl (by repeat' (first | exact trivial | exact low_natL 0 _ | exact low_limbs 0 _ | refine And.intro ?_ ?_ | fail)) | refine Fz.tup ?_ | refine FzL.cons ?_ ?_ | exact FzL.nil | fail)
        | cons y l =>
          repeat' ((conv => whnf); first | refine ngo ?_ | refine VB.tt ?_ | refine VB.ff ?_ | refine VNew.keep ?_ | refine dgo ?_ | refine sgo ?_ | fail)
          conv => whnf
          show VCall EE _ [.osl 1 l.length 0 (l.length + 1) 1] [.cells 0 40 [.int .i64 0, .int .i64 0], .cells l.length 30 (limbs (y :: l))] _
          refine VCall.mono ?_ (rtrim_own rfl hokl (by simp) (by simp only [List.length_cons] at hll; omega))
          rintro v H ⟨rfl, rfl⟩
          rw [show List.take (l.length + 1) (y :: l) = y :: l from List.take_of_length_le (by simp), hvl]
          repeat' ((conv => whnf); first | refine ngo ?_ | refine VB.tt ?_ | refine VB.ff ?_ | refine VNew.keep ?_ | refine dgo ?_ | refine sgo ?_ | fail)
          conv => whnf
          refine .tup (.cons ?_ (.cons (.same rfl ⟨trivial, trivial, trivial⟩) .nil))
          refine Fz.nat (l := dg (Dec.val (dgs (bts s)))) (Nat.zero_le _) (by simp) rfl ?_ rfl
          rw [Nat.mul_one, limbs_take, ← hvl, take_dg hokl]
end Go.Proofs.YtcdnonggajoghaaDoor
