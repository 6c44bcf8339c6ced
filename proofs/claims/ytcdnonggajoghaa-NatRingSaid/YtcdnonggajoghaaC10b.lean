/- Contracts: the reference's quotients, the digits. -/
import Derived.Test.YtcdnonggajoghaaC10a
namespace Go.Proofs.Ytcdnonggajoghaa
open Go Go.RowKit
set_option linter.unusedVariables false
set_option linter.unusedSimpArgs false
set_option maxRecDepth 100000

theorem over_est {V top P W : Nat} (hV : top * P ≤ V) (ht : 0 < top) (hP : 0 < P) : W / V ≤ W / P / top := by
  have hV0 : 0 < V := Nat.lt_of_lt_of_le (Nat.mul_pos ht hP) hV
  rw [Nat.le_div_iff_mul_le ht, Nat.le_div_iff_mul_le hP]
  have h1 := Nat.div_mul_le_self W V
  generalize W / V = q at *
  have h2 := Nat.mul_le_mul_left q hV
  rw [← Nat.mul_assoc] at h2
  omega

theorem over_step {A V Q R j aj W : Nat} (h : A / BB ^ (j + 1) = V * Q + R) (ha : aj = A / BB ^ j % BB) (hW : W = aj + BB * R) : A / BB ^ j = V * (W / V + BB * Q) + W % V := by
  have e1 : A / BB ^ j = BB * (A / BB ^ (j + 1)) + aj := by
    rw [ha, Nat.pow_succ, ← Nat.div_div_eq_div_mul]
    exact (Nat.div_add_mod _ _).symm
  have h2 := Nat.div_add_mod W V
  rw [e1, h, Nat.mul_add, Nat.mul_add]
  rw [hW] at h2 ⊢
  generalize (aj + BB * R) / V = w at *
  generalize (aj + BB * R) % V = r at *
  rw [Nat.mul_left_comm]
  omega

/-- The rest in the second block, or none. -/
def accR1 (l : List Nat) (k : Nat) : AV := match l with
  | [] => .nsl
  | x :: l => .osl 1 l.length 0 k 1
def oSt (f n lq A V top : Nat) (j : Nat) (q rl : List Nat) : St := match j with
  | 0 => ⟨oFr f n lq A V top (-1) (accR1 rl (dg (val rl)).length), .cells 0 30 (limbs q) :: accH 30 rl, []⟩
  | j + 1 => ⟨oFr f n lq A V top (j : Nat) (natL rl), [.cells 0 30 (limbs q)], []⟩

set_option maxHeartbeats 1000000 in
theorem over_loop {f n lq A V top : Nat} {q0 r0 : List Nat} (hc : OvC f n lq A V top) (hlq0 : 1 ≤ lq) (hql0 : q0.length = lq) (hq0 : okL q0) (hqz0 : ∀ k, q0.getD k 0 = 0) (hr0 : okL r0) (hr1 : val r0 = A / BB ^ lq) (hr2 : r0.length ≤ n) (hr3 : val r0 < V) :
    VLoop EE Try.f34.ntmps none (nthLoop Try.f34 0) (fun e s => e = .exit 0 ∧ ∃ y : List Nat × List Nat, (y.1.length = lq ∧ okL y.1 ∧ okL y.2 ∧ val y.2 < V ∧ A = V * val y.1 + val y.2) ∧
      Meets ⟨[(4, .osl 0 0 0 lq 1), (5, accR1 y.2 (dg (val y.2)).length), (6, .dsl (limbs [f]) 1)], .cells 0 30 (limbs y.1) :: accH 30 y.2, []⟩ s)
      ⟨oFr f n lq A V top ((lq : Int) - 1) (natL r0), [.cells 0 30 (limbs q0)], []⟩ := by
  have hn := hc.hn
  have hn2 := hc.hn2
  have hnn := hc.hnn
  have hlq2 := hc.hlq2
  have hlq := hc.hlq
  have hV0 := hc.hV0
  have htop := hc.htop
  have htop0 := hc.htop0
  have hBB : BB = 1000000000 := rfl
  have hBB2 : BB * BB = 1000000000000000000 := rfl
  refine VLoop.tr true (fun x : Nat × List Nat × List Nat => oSt f n lq A V top x.1 x.2.1 x.2.2)
    (fun x => x.1 ≤ lq ∧ x.2.1.length = lq ∧ okL x.2.1 ∧ okL x.2.2 ∧ val x.2.2 < V ∧ (1 ≤ x.1 → x.2.2.length ≤ n) ∧ (∀ k, k < x.1 → x.2.1.getD k 0 = 0) ∧ A / BB ^ x.1 = V * val (x.2.1.drop x.1) + val x.2.2) (fun x => x.1) (lq, q0, r0) ⟨Nat.le_refl _, hql0, hq0, hr0, hr3, fun _ => hr2, fun k _ => hqz0 k, by dsimp only; rw [List.drop_eq_nil_of_le (by omega), hr1]; simp [val]⟩ ?_ ?_
  · obtain ⟨l, rfl⟩ : ∃ k, lq = k + 1 := ⟨lq - 1, by omega⟩
    exact ⟨⟨rfl, rfl, rfl, rfl, rfl, rfl, rfl, by simp [lk, oFr], trivial⟩, rfl, rfl⟩
  rintro ⟨j, q, rl⟩ ⟨hj, hql, hq, hrl, hrV, hrn, hqz, heq⟩
  dsimp only at hj hql hq hrl hrV hrn hqz heq ⊢
  cases j with
  | zero =>
    repeat' ((conv => whnf); first | refine ngo ?_ | refine VB.tt ?_ | refine VB.ff ?_ | refine VNew.keep ?_ | refine dgo ?_ | refine sgo ?_ | fail)
    conv => whnf
    refine ⟨(q, rl), ⟨hql, hq, hrl, hrV, ?_⟩, ⟨⟨rfl, rfl, rfl, trivial⟩, rfl, rfl⟩⟩
    simpa using heq
  | succ j =>
    have hrn := hrn (by omega)
    have hqj := hqz j (by omega)
    have ej : ((j : Nat) : Int).toNat = j := by omega
    have g1 : getInt (List.drop (((j : Nat) : Int).toNat * 1) (limbs (dg A))) = (((dg A).getD j 0 : Nat) : Int) := by rw [ej, Nat.mul_one, getInt_limbs]
    have haj := dg_getD A j
    have hajl := getD_lt (okL_dg A) j
    generalize (dg A).getD j 0 = aj at *
    obtain ⟨W, hW⟩ : ∃ W, W = aj + BB * val rl := ⟨_, rfl⟩
    have hst := over_step heq haj hW
    have hWV : W < V * BB := by
      have h1 : BB * (val rl + 1) ≤ BB * V := Nat.mul_le_mul_left _ hrV
      rw [Nat.mul_comm V BB]
      rw [Nat.mul_add] at h1
      omega
    have hWn : (dg W).length ≤ n + 1 := length_dg_lt (by
      rw [Nat.pow_succ]
      exact Nat.lt_of_lt_of_le hWV (Nat.mul_le_mul_right _ (Nat.le_of_lt hc.hVpow)))
    have hP : 0 < BB ^ (n - 1) := Nat.pow_pos (by decide)
    have hest := over_est (W := W) hc.hV (Nat.pos_of_ne_zero htop0) hP
    have hdB : W / V < BB := Nat.div_lt_of_lt_mul hWV
    have hlead : W / BB ^ (n - 1) < BB * BB := by
      refine Nat.div_lt_of_lt_mul (Nat.lt_of_lt_of_le hWV ?_)
      have h1 : V * BB ≤ BB ^ n * BB := Nat.mul_le_mul_right _ (Nat.le_of_lt hc.hVpow)
      have h2 : BB ^ n * BB = BB ^ (n - 1) * (BB * BB) := by
        conv => lhs; rw [show n = (n - 1) + 1 by omega]
        rw [Nat.pow_succ, Nat.mul_assoc]
      exact Nat.le_trans h1 (Nat.le_of_eq h2)
    have hwok : okL (aj :: rl) := okL_cons.2 ⟨hajl, hrl⟩
    have hwv : val (aj :: rl) = W := by rw [hW, val]
    repeat' ((conv => whnf); first | refine ngo ?_ | refine VB.tt ?_ | refine VB.ff ?_ | refine dgo ?_ | refine sgo ?_ | fail)
    conv => whnf
    rw [g1]
    refine VNew.keep ?_
    repeat' ((conv => whnf); first | refine ngo ?_ | refine VB.tt ?_ | refine VB.ff ?_ | refine dgo ?_ | refine sgo ?_ | fail)
    conv => whnf
    refine VNew.dat (cs' := limbs (aj :: rl)) rfl ?_ ?_
    · rw [Nat.mul_one, List.drop_zero, List.take_of_length_le (by simp [limbs]; omega)]
      rfl
    repeat' ((conv => whnf); first | refine ngo ?_ | refine VB.tt ?_ | refine VB.ff ?_ | refine VNew.keep ?_ | refine dgo ?_ | refine sgo ?_ | fail)
    conv => whnf
    rw [show AV.dsl (limbs (aj :: rl)) (1 + rl.length) = natL (aj :: rl) by simp [natL, Nat.add_comm]]
    have ht := rtrim_c hwok (by simp; omega)
    rw [hwv] at ht
    refine VCall.s (ht) ?_
    repeat' ((conv => whnf); first | refine ngo ?_ | refine VB.tt ?_ | refine VB.ff ?_ | refine VNew.keep ?_ | refine dgo ?_ | refine sgo ?_ | fail)
    conv => whnf
    refine VLoop.use (lead_loop (i := j) (H := [.cells 0 30 (limbs q), .gone]) hc hWV) ⟨⟨rfl, rfl, rfl, rfl, rfl, rfl, rfl, rfl, rfl, rfl, trivial⟩, rfl, rfl⟩ ?_
    rintro ⟨⟩ -
    generalize hle : W / BB ^ (n - 1) = le at *
    have g5 := tdiv_nat le top
    have hlt := Nat.div_le_self le top
    generalize le / top = x at *
    have hd0 : ∃ d0 : Nat, (if (999999999 : Int) < (x : Int) then (999999999 : Int) else (x : Int)) = (d0 : Int) ∧ d0 < BB ∧ W / V ≤ d0 := by
      by_cases h : (999999999 : Int) < (x : Int)
      · exact ⟨999999999, by rw [if_pos h]; rfl, by decide, by omega⟩
      · exact ⟨x, by rw [if_neg h], by omega, hest⟩
    obtain ⟨d0, hd1, hd2, hd3⟩ := hd0
    repeat' ((conv => whnf); first | refine ngo ?_ | refine VB.tt ?_ | refine VB.ff ?_ | refine VNew.keep ?_ | refine dgo ?_ | refine sgo ?_ | fail)
    conv => whnf
    rw [g5, hd1]
    repeat' ((conv => whnf); first | refine ngo ?_ | refine VB.tt ?_ | refine VB.ff ?_ | refine VNew.keep ?_ | refine dgo ?_ | refine sgo ?_ | fail)
    conv => whnf
    refine VLoop.use (down_loop (i := j) (H := [.cells 0 30 (limbs q), .gone]) (d0 := d0) hc (by omega) hd2 hd3) ⟨⟨rfl, rfl, rfl, rfl, rfl, rfl, rfl, rfl, rfl, trivial⟩, rfl, rfl⟩ ?_
    rintro - -
    have hml := Nat.mod_lt W hV0
    have hdm := Nat.div_add_mod W V
    have hle2 : V * (W / V) ≤ W := by omega
    have hsub : W - V * (W / V) = W % V := by omega
    generalize W / V = d at *
    have hdl : (dg d).length ≤ 1 := length_dg_lt (by simpa using hdB)
    have hVdl : (dg (V * d)).length ≤ n + 1 := by
      have := dg_length_mono hle2
      omega
    repeat' ((conv => whnf); first | refine ngo ?_ | refine VB.tt ?_ | refine VB.ff ?_ | refine VNew.keep ?_ | refine dgo ?_ | refine sgo ?_ | fail)
    conv => whnf
    refine VCall.s (rsmall_c hdB) ?_
    repeat' ((conv => whnf); first | refine ngo ?_ | refine VB.tt ?_ | refine VB.ff ?_ | refine VNew.keep ?_ | refine dgo ?_ | refine sgo ?_ | fail)
    conv => whnf
    refine VCall.i (rtimes_n (by omega) (by omega)) ?_
    repeat' ((conv => whnf); first | refine ngo ?_ | refine VB.tt ?_ | refine VB.ff ?_ | refine VNew.keep ?_ | refine dgo ?_ | refine sgo ?_ | fail)
    conv => whnf
    have hmo := rminus_own (canon_dg W) (canon_dg (V * d)) (by omega) (by rwa [val_dg, val_dg])
    rw [val_dg, val_dg, hsub] at hmo
    have hRl : (dg (W % V)).length ≤ n := by rw [hnn]; exact dg_length_mono (Nat.le_of_lt hml)
    have hqd : val ((q.set j d).drop j) = d + BB * val (q.drop (j + 1)) := by
      rw [List.drop_set, if_neg (by omega), Nat.sub_self, List.drop_eq_getElem_cons (by omega), List.set_cons_zero, val]
    have hqz' : ∀ k, k < j → (q.set j d).getD k 0 = 0 := fun k hk => by rw [getD_set_ne' (by omega)]; exact hqz k (by omega)
    refine VCall.own hmo ⟨low_natL 0 _, low_natL 0 _, trivial⟩ fun v0 H0 hz => ?_
    obtain ⟨l, hl1, hl2, rfl, rfl⟩ := hz
    rw [← hl2] at hml hst hRl ⊢
    rw [← hqd] at hst
    refine ⟨fun o ho => ?_, ?_⟩
    · cases l with
      | nil => simp [accH] at ho
      | cons x l => rw [List.mem_singleton.1 ho]; exact low_limbs 0 _
    cases l with
    | nil =>
      refine ⟨.nsl, .same trivial, ?_⟩
      repeat' ((conv => whnf); first | refine ngo ?_ | refine VB.tt ?_ | refine VB.ff ?_ | refine VNew.keep ?_ | refine dgo ?_ | refine sgo ?_ | fail)
      conv => whnf
      cases j with
      | zero =>
        refine ⟨(0, q.set (0) d, []), ⟨by dsimp only; omega, by dsimp only; rw [List.length_set]; exact hql, okL_set hq _ hdB, hl1, hml, fun h => by simp, hqz', hst⟩, by dsimp only; omega, [], by simp, by simp, ⟨⟨_, rfl, .cells rfl (FzL.same ?_ (low_limbs _ (q.set (0) d)))⟩, trivial⟩, ⟨⟨_, rfl, .same rfl (low_natL _ _)⟩, ⟨_, rfl, .same rfl (low_natL _ _)⟩, ⟨_, rfl, .same rfl (show 0 < 1 by decide)⟩, ⟨_, rfl, .same rfl trivial⟩, ⟨_, rfl, .same rfl (low_limbs _ [f])⟩, ⟨_, rfl, .same rfl trivial⟩, ⟨_, rfl, .same rfl trivial⟩, ⟨_, rfl, .same (by simp) trivial⟩, trivial⟩, rfl, by simp⟩
        rw [Int.toNat_natCast, Nat.mul_one, Nat.zero_add, splice_limbs (by omega)]
      | succ j =>
        refine ⟨(j + 1, q.set (j + 1) d, []), ⟨by dsimp only; omega, by dsimp only; rw [List.length_set]; exact hql, okL_set hq _ hdB, hl1, hml, fun h => by simp, hqz', hst⟩, by dsimp only; omega, [], by simp, by simp, ⟨⟨_, rfl, .cells rfl (FzL.same ?_ (low_limbs _ (q.set (j + 1) d)))⟩, trivial⟩, ⟨⟨_, rfl, .same rfl (low_natL _ _)⟩, ⟨_, rfl, .same rfl (low_natL _ _)⟩, ⟨_, rfl, .same rfl (show 0 < 1 by decide)⟩, ⟨_, rfl, .nsl⟩, ⟨_, rfl, .same rfl (low_limbs _ [f])⟩, ⟨_, rfl, .same rfl trivial⟩, ⟨_, rfl, .same rfl trivial⟩, ⟨_, rfl, .same (by simp) trivial⟩, trivial⟩, rfl, by simp⟩
        rw [Int.toNat_natCast, Nat.mul_one, Nat.zero_add, splice_limbs (by omega)]
    | cons x l =>
      refine ⟨_, .osl, ?_⟩
      repeat' ((conv => whnf); first | refine ngo ?_ | refine VB.tt ?_ | refine VB.ff ?_ | refine VNew.keep ?_ | refine dgo ?_ | refine sgo ?_ | fail)
      conv => whnf
      cases j with
      | zero =>
        refine ⟨(0, q.set (0) d, x :: l), ⟨by dsimp only; omega, by dsimp only; rw [List.length_set]; exact hql, okL_set hq _ hdB, hl1, hml, fun h => absurd h (by simp), hqz', hst⟩, by dsimp only; omega, [2], by simp, by simp, ⟨⟨_, rfl, .cells rfl (FzL.same ?_ (low_limbs _ (q.set (0) d)))⟩, ⟨_, rfl, .cells rfl (FzL.same rfl (low_limbs _ (x :: l)))⟩, trivial⟩, ⟨⟨_, rfl, .same rfl (low_natL _ _)⟩, ⟨_, rfl, .same rfl (low_natL _ _)⟩, ⟨_, rfl, .same rfl (show 0 < 1 by decide)⟩, ⟨_, rfl, .kosl (j := 0) rfl rfl rfl rfl⟩, ⟨_, rfl, .same rfl (low_limbs _ [f])⟩, ⟨_, rfl, .same rfl trivial⟩, ⟨_, rfl, .same rfl trivial⟩, ⟨_, rfl, .same (by simp) trivial⟩, trivial⟩, rfl, by simp⟩
        rw [Int.toNat_natCast, Nat.mul_one, Nat.zero_add, splice_limbs (by omega)]
      | succ j =>
        refine ⟨(j + 1, q.set (j + 1) d, dg (val (x :: l))), ⟨by dsimp only; omega, by dsimp only; rw [List.length_set]; exact hql, okL_set hq _ hdB, okL_dg _, by dsimp only; rw [val_dg]; exact hml, fun _ => hRl, hqz', by dsimp only; rw [val_dg]; exact hst⟩, by dsimp only; omega, [], by simp, by simp, ⟨⟨_, rfl, .cells rfl (FzL.same ?_ (low_limbs _ (q.set (j + 1) d)))⟩, trivial⟩, ⟨⟨_, rfl, .same rfl (low_natL _ _)⟩, ⟨_, rfl, .same rfl (low_natL _ _)⟩, ⟨_, rfl, .same rfl (show 0 < 1 by decide)⟩, ⟨_, rfl, Fz.nat (by simp) (by simp) rfl (by rw [Nat.mul_one, limbs_take, take_dg hl1]) rfl⟩, ⟨_, rfl, .same rfl (low_limbs _ [f])⟩, ⟨_, rfl, .same rfl trivial⟩, ⟨_, rfl, .same rfl trivial⟩, ⟨_, rfl, .same (by simp) trivial⟩, trivial⟩, rfl, by simp⟩
        rw [Int.toNat_natCast, Nat.mul_one, Nat.zero_add, splice_limbs (by omega)]
end Go.Proofs.Ytcdnonggajoghaa
