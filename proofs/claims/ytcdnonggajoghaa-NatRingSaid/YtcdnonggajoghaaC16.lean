/- The law of sums, differences, products and powers. -/
import Derived.Test.YtcdnonggajoghaaC15
namespace Go.Proofs.Ytcdnonggajoghaa
open Go Go.RowKit
set_option linter.unusedVariables false
set_option linter.unusedSimpArgs false
set_option maxRecDepth 100000

theorem radd_c (a b : List Nat) (la : a.length < 1000000000000000000) (lb : b.length < 1000000000000000000) : VCall EE 22 [natL a, natL b] [] fun v H => Fz H 0 [] v (res2 a b (addN (val a + val b)) (addE (val a + val b))) := by
  refine VCall.of_body true Try.func22 rfl (by decide) rfl ?_
  repeat' ((conv => whnf); first | refine ngo ?_ | refine VB.tt ?_ | refine VB.ff ?_ | refine VNew.keep ?_ | refine dgo ?_ | refine sgo ?_ | fail)
  conv => whnf
  refine VCall.s (rboth_c a b la lb) ?_
  repeat' ((conv => whnf); first | refine ngo ?_ | refine VB.tt ?_ | refine VB.ff ?_ | refine VNew.keep ?_ | refine dgo ?_ | refine sgo ?_ | fail)
  conv => whnf
  refine VB.ne (fun h => ?_) (fun h => ?_)
  · repeat' ((conv => whnf); first | refine ngo ?_ | refine VB.tt ?_ | refine VB.ff ?_ | refine VNew.keep ?_ | refine dgo ?_ | refine sgo ?_ | fail)
    conv => whnf
    rw [res2, if_neg h, if_neg h]
    repeat' (first | exact fz_nil0 | exact Fz.nsl | exact Fz.same rfl (by repeat' (first | exact trivial | exact low_natL 0 _ | exact low_limbs 0 _ | refine And.intro ?_ ?_ | fail)) | refine Fz.tup ?_ | refine FzL.cons ?_ ?_ | exact FzL.nil | fail)
  obtain ⟨h1, h2⟩ := both2_zero h
  obtain ⟨ca, la⟩ := chk_zero h1
  obtain ⟨cb, lb⟩ := chk_zero h2
  have hl := dg_add_le (val a) (val b)
  rw [dg_val ca, dg_val cb] at hl
  repeat' ((conv => whnf); first | refine ngo ?_ | refine VB.tt ?_ | refine VB.ff ?_ | refine VNew.keep ?_ | refine dgo ?_ | refine sgo ?_ | fail)
  conv => whnf
  refine VCall.i (rplus_c ca cb (by omega) (by omega)) ?_
  repeat' ((conv => whnf); first | refine ngo ?_ | refine VB.tt ?_ | refine VB.ff ?_ | refine VNew.keep ?_ | refine dgo ?_ | refine sgo ?_ | fail)
  conv => whnf
  refine VCall.i (rfits_c (by omega)) ?_
  repeat' ((conv => whnf); first | refine ngo ?_ | refine VB.tt ?_ | refine VB.ff ?_ | refine VNew.keep ?_ | refine dgo ?_ | refine sgo ?_ | fail)
  conv => whnf
  rw [res2, if_pos h, if_pos h, addN, addE]
  repeat' (first | exact fz_nil0 | exact Fz.nsl | exact Fz.same rfl (by repeat' (first | exact trivial | exact low_natL 0 _ | exact low_limbs 0 _ | refine And.intro ?_ ?_ | fail)) | refine Fz.tup ?_ | refine FzL.cons ?_ ?_ | exact FzL.nil | fail)

theorem rsub_c (a b : List Nat) (la : a.length < 1000000000000000000) (lb : b.length < 1000000000000000000) : VCall EE 24 [natL a, natL b] [] fun v H => Fz H 0 [] v (res2 a b (val a - val b) (subE (val a) (val b))) := by
  refine VCall.of_body true Try.func24 rfl (by decide) rfl ?_
  repeat' ((conv => whnf); first | refine ngo ?_ | refine VB.tt ?_ | refine VB.ff ?_ | refine VNew.keep ?_ | refine dgo ?_ | refine sgo ?_ | fail)
  conv => whnf
  refine VCall.s (rboth_c a b la lb) ?_
  repeat' ((conv => whnf); first | refine ngo ?_ | refine VB.tt ?_ | refine VB.ff ?_ | refine VNew.keep ?_ | refine dgo ?_ | refine sgo ?_ | fail)
  conv => whnf
  refine VB.ne (fun h => ?_) (fun h => ?_)
  · repeat' ((conv => whnf); first | refine ngo ?_ | refine VB.tt ?_ | refine VB.ff ?_ | refine VNew.keep ?_ | refine dgo ?_ | refine sgo ?_ | fail)
    conv => whnf
    rw [res2, if_neg h, if_neg h]
    repeat' (first | exact fz_nil0 | exact Fz.nsl | exact Fz.same rfl (by repeat' (first | exact trivial | exact low_natL 0 _ | exact low_limbs 0 _ | refine And.intro ?_ ?_ | fail)) | refine Fz.tup ?_ | refine FzL.cons ?_ ?_ | exact FzL.nil | fail)
  obtain ⟨h1, h2⟩ := both2_zero h
  obtain ⟨ca, la⟩ := chk_zero h1
  obtain ⟨cb, lb⟩ := chk_zero h2
  repeat' ((conv => whnf); first | refine ngo ?_ | refine VB.tt ?_ | refine VB.ff ?_ | refine VNew.keep ?_ | refine dgo ?_ | refine sgo ?_ | fail)
  conv => whnf
  refine VCall.s (rorder_c ca cb (by omega) (by omega)) ?_
  repeat' ((conv => whnf); first | refine ngo ?_ | refine VB.tt ?_ | refine VB.ff ?_ | refine VNew.keep ?_ | refine dgo ?_ | refine sgo ?_ | fail)
  conv => whnf
  refine VB.dec (fun h3 => ?_) (fun h3 => ?_)
  · have h3 := cmpN_neg.1 h3
    repeat' ((conv => whnf); first | refine ngo ?_ | refine VB.tt ?_ | refine VB.ff ?_ | refine VNew.keep ?_ | refine dgo ?_ | refine sgo ?_ | fail)
    conv => whnf
    rw [res2, if_pos h, if_pos h, subE, if_pos h3, Nat.sub_eq_zero_of_le (Nat.le_of_lt h3)]
    repeat' (first | exact fz_nil0 | exact Fz.nsl | exact Fz.same rfl (by repeat' (first | exact trivial | exact low_natL 0 _ | exact low_limbs 0 _ | refine And.intro ?_ ?_ | fail)) | refine Fz.tup ?_ | refine FzL.cons ?_ ?_ | exact FzL.nil | fail)
  · have h3 : ¬ val a < val b := fun hh => h3 (cmpN_neg.2 hh)
    have hl := dg_length_mono (Nat.sub_le (val a) (val b))
    rw [dg_val ca] at hl
    have hm := rminus_n (a := val a) (b := val b) (by rw [dg_val ca]; omega) (by omega)
    rw [← canon_natL ca, ← canon_natL cb] at hm
    have hf := rfits_c (n := val a - val b) (by omega)
    rw [if_neg (by omega), if_neg (by omega)] at hf
    repeat' ((conv => whnf); first | refine ngo ?_ | refine VB.tt ?_ | refine VB.ff ?_ | refine VNew.keep ?_ | refine dgo ?_ | refine sgo ?_ | fail)
    conv => whnf
    refine VCall.i (hm) ?_
    repeat' ((conv => whnf); first | refine ngo ?_ | refine VB.tt ?_ | refine VB.ff ?_ | refine VNew.keep ?_ | refine dgo ?_ | refine sgo ?_ | fail)
    conv => whnf
    refine VCall.i (hf) ?_
    repeat' ((conv => whnf); first | refine ngo ?_ | refine VB.tt ?_ | refine VB.ff ?_ | refine VNew.keep ?_ | refine dgo ?_ | refine sgo ?_ | fail)
    conv => whnf
    rw [res2, if_pos h, if_pos h, subE, if_neg h3]
    repeat' (first | exact fz_nil0 | exact Fz.nsl | exact Fz.same rfl (by repeat' (first | exact trivial | exact low_natL 0 _ | exact low_limbs 0 _ | refine And.intro ?_ ?_ | fail)) | refine Fz.tup ?_ | refine FzL.cons ?_ ?_ | exact FzL.nil | fail)

theorem rmul_c (a b : List Nat) (la : a.length < 1000000000000000000) (lb : b.length < 1000000000000000000) : VCall EE 26 [natL a, natL b] [] fun v H => Fz H 0 [] v (res2 a b (mulN (val a) (val b)) (mulE (val a) (val b))) := by
  refine VCall.of_body true Try.func26 rfl (by decide) rfl ?_
  repeat' ((conv => whnf); first | refine ngo ?_ | refine VB.tt ?_ | refine VB.ff ?_ | refine VNew.keep ?_ | refine dgo ?_ | refine sgo ?_ | fail)
  conv => whnf
  refine VCall.s (rboth_c a b la lb) ?_
  repeat' ((conv => whnf); first | refine ngo ?_ | refine VB.tt ?_ | refine VB.ff ?_ | refine VNew.keep ?_ | refine dgo ?_ | refine sgo ?_ | fail)
  conv => whnf
  refine VB.ne (fun h => ?_) (fun h => ?_)
  · repeat' ((conv => whnf); first | refine ngo ?_ | refine VB.tt ?_ | refine VB.ff ?_ | refine VNew.keep ?_ | refine dgo ?_ | refine sgo ?_ | fail)
    conv => whnf
    rw [res2, if_neg h, if_neg h]
    repeat' (first | exact fz_nil0 | exact Fz.nsl | exact Fz.same rfl (by repeat' (first | exact trivial | exact low_natL 0 _ | exact low_limbs 0 _ | refine And.intro ?_ ?_ | fail)) | refine Fz.tup ?_ | refine FzL.cons ?_ ?_ | exact FzL.nil | fail)
  obtain ⟨h1, h2⟩ := both2_zero h
  obtain ⟨ca, la⟩ := chk_zero h1
  obtain ⟨cb, lb⟩ := chk_zero h2
  have hl := mul_len ca cb la lb
  repeat' ((conv => whnf); first | refine ngo ?_ | refine VB.tt ?_ | refine VB.ff ?_ | refine VNew.keep ?_ | refine dgo ?_ | refine sgo ?_ | fail)
  conv => whnf
  refine VCall.i (rtimes_c ca.1 cb.1 (by omega) (by omega)) ?_
  repeat' ((conv => whnf); first | refine ngo ?_ | refine VB.tt ?_ | refine VB.ff ?_ | refine VNew.keep ?_ | refine dgo ?_ | refine sgo ?_ | fail)
  conv => whnf
  refine VCall.i (rfits_c (by omega)) ?_
  repeat' ((conv => whnf); first | refine ngo ?_ | refine VB.tt ?_ | refine VB.ff ?_ | refine VNew.keep ?_ | refine dgo ?_ | refine sgo ?_ | fail)
  conv => whnf
  rw [res2, if_pos h, if_pos h, mulN, mulE]
  repeat' (first | exact fz_nil0 | exact Fz.nsl | exact Fz.same rfl (by repeat' (first | exact trivial | exact low_natL 0 _ | exact low_limbs 0 _ | refine And.intro ?_ ?_ | fail)) | refine Fz.tup ?_ | refine FzL.cons ?_ ?_ | exact FzL.nil | fail)

theorem rpow_c (a : List Nat) (n : Int) (la : a.length < 1000000000000000000) (n1 : -9223372036854775808 ≤ n) (n2 : n < 9223372036854775808) : VCall EE 28 [natL a, .int .i64 n] [] fun v H => Fz H 0 [] v (.tup [natv (powN a n), .int .i64 (powE a n)]) := by
  refine VCall.of_body true Try.func28 rfl (by decide) rfl ?_
  repeat' ((conv => whnf); first | refine ngo ?_ | refine VB.tt ?_ | refine VB.ff ?_ | refine VNew.keep ?_ | refine dgo ?_ | refine sgo ?_ | fail)
  conv => whnf
  refine VCall.s (rcheck_c a la) ?_
  repeat' ((conv => whnf); first | refine ngo ?_ | refine VB.tt ?_ | refine VB.ff ?_ | refine VNew.keep ?_ | refine dgo ?_ | refine sgo ?_ | fail)
  conv => whnf
  refine VB.ne (fun h => ?_) (fun h => ?_)
  · repeat' ((conv => whnf); first | refine ngo ?_ | refine VB.tt ?_ | refine VB.ff ?_ | refine VNew.keep ?_ | refine dgo ?_ | refine sgo ?_ | fail)
    conv => whnf
    rw [powN, powE, if_neg (fun hh => h hh.1), if_neg h]
    repeat' (first | exact fz_nil0 | exact Fz.nsl | exact Fz.same rfl (by repeat' (first | exact trivial | exact low_natL 0 _ | exact low_limbs 0 _ | refine And.intro ?_ ?_ | fail)) | refine Fz.tup ?_ | refine FzL.cons ?_ ?_ | exact FzL.nil | fail)
  obtain ⟨ca, la⟩ := chk_zero h
  repeat' ((conv => whnf); first | refine ngo ?_ | refine VB.tt ?_ | refine VB.ff ?_ | refine VNew.keep ?_ | refine dgo ?_ | refine sgo ?_ | fail)
  conv => whnf
  by_cases hn0 : n < 0
  · rw [decide_eq_true hn0]
    repeat' ((conv => whnf); first | refine ngo ?_ | refine VB.tt ?_ | refine VB.ff ?_ | refine VNew.keep ?_ | refine dgo ?_ | refine sgo ?_ | fail)
    conv => whnf
    rw [powN, powE, if_neg (by omega), if_pos h, if_neg (by omega)]
    repeat' (first | exact fz_nil0 | exact Fz.nsl | exact Fz.same rfl (by repeat' (first | exact trivial | exact low_natL 0 _ | exact low_limbs 0 _ | refine And.intro ?_ ?_ | fail)) | refine Fz.tup ?_ | refine FzL.cons ?_ ?_ | exact FzL.nil | fail)
  rw [decide_eq_false hn0]
  repeat' ((conv => whnf); first | refine ngo ?_ | refine VB.tt ?_ | refine VB.ff ?_ | refine VNew.keep ?_ | refine dgo ?_ | refine sgo ?_ | fail)
  conv => whnf
  refine VB.dec (fun hn1 => ?_) (fun hn1 => ?_)
  · repeat' ((conv => whnf); first | refine ngo ?_ | refine VB.tt ?_ | refine VB.ff ?_ | refine VNew.keep ?_ | refine dgo ?_ | refine sgo ?_ | fail)
    conv => whnf
    rw [powN, powE, if_neg (by omega), if_pos h, if_neg (by omega)]
    repeat' (first | exact fz_nil0 | exact Fz.nsl | exact Fz.same rfl (by repeat' (first | exact trivial | exact low_natL 0 _ | exact low_limbs 0 _ | refine And.intro ?_ ?_ | fail)) | refine Fz.tup ?_ | refine FzL.cons ?_ ?_ | exact FzL.nil | fail)
  obtain ⟨n, rfl⟩ : ∃ k : Nat, n = (k : Int) := ⟨n.toNat, by omega⟩
  rw [powN, powE, if_pos ⟨h, by omega, by omega⟩, if_pos h, if_pos ⟨by omega, by omega⟩, Int.toNat_natCast]
  have hone : val [1] = 1 := by simp [val]
  have hc1 : canon [1] := canonB_iff.1 (by decide)
  repeat' ((conv => whnf); first | refine ngo ?_ | refine VB.tt ?_ | refine VB.ff ?_ | refine VNew.keep ?_ | refine dgo ?_ | refine sgo ?_ | fail)
  conv => whnf
  by_cases hnp : (n : Int) > 0
  · rw [decide_eq_true hnp]
    repeat' ((conv => whnf); first | refine ngo ?_ | refine VB.tt ?_ | refine VB.ff ?_ | refine dgo ?_ | refine sgo ?_ | fail)
    conv => whnf
    refine VNew.dat (cs' := limbs [1]) rfl rfl ?_
    repeat' ((conv => whnf); first | refine ngo ?_ | refine VB.tt ?_ | refine VB.ff ?_ | refine VNew.keep ?_ | refine dgo ?_ | refine sgo ?_ | fail)
    conv => whnf
    show VCall EE _ [natL a, natL [1]] [.gone] _
    refine VCall.s (rorder_c ca hc1 (by omega) (by decide)) ?_
    rw [hone]
    repeat' ((conv => whnf); first | refine ngo ?_ | refine VB.tt ?_ | refine VB.ff ?_ | refine VNew.keep ?_ | refine dgo ?_ | refine sgo ?_ | fail)
    conv => whnf
    refine VB.dec (fun h3 => ?_) (fun h3 => ?_)
    · have h3 : val a ≤ 1 := by
        unfold cmpN at h3
        split at h3
        · omega
        · split at h3
          · omega
          · exact absurd h3 (by decide)
      have hpw : val a ^ n = val a := by
        have h4 : val a = 0 ∨ val a = 1 := by omega
        rcases h4 with h4 | h4
        · rw [h4, Nat.zero_pow (by omega)]
        · rw [h4, Nat.one_pow]
      have hf := rfits_c (n := val a) (by rw [dg_val ca]; omega)
      rw [← canon_natL ca, dg_val ca, if_neg (by omega), if_neg (by omega)] at hf
      repeat' ((conv => whnf); first | refine ngo ?_ | refine VB.tt ?_ | refine VB.ff ?_ | refine VNew.keep ?_ | refine dgo ?_ | refine sgo ?_ | fail)
      conv => whnf
      refine VCall.i (hf) ?_
      repeat' ((conv => whnf); first | refine ngo ?_ | refine VB.tt ?_ | refine VB.ff ?_ | refine VNew.keep ?_ | refine dgo ?_ | refine sgo ?_ | fail)
      conv => whnf
      rw [hpw, addN, addE, dg_val ca, if_neg (by omega), if_neg (by omega), ← canon_natL ca]
      repeat' (first | exact fz_nil0 | exact Fz.nsl | exact Fz.same rfl (by repeat' (first | exact trivial | exact low_natL 0 _ | exact low_limbs 0 _ | refine And.intro ?_ ?_ | fail)) | refine Fz.tup ?_ | refine FzL.cons ?_ ?_ | exact FzL.nil | fail)
    · have h3 : 1 < val a := by
        unfold cmpN at h3
        split at h3
        · exact absurd (by decide) h3
        · split at h3
          · exact absurd (by decide) h3
          · omega
      repeat' ((conv => whnf); first | refine ngo ?_ | refine VB.tt ?_ | refine VB.ff ?_ | refine dgo ?_ | refine sgo ?_ | fail)
      conv => whnf
      refine VNew.dat (cs' := limbs [1]) rfl rfl ?_
      rw [one_nat]
      repeat' ((conv => whnf); first | refine VB.tt ?_ | refine VB.ff ?_ | refine VNew.keep ?_ | refine dgo ?_ | refine sgo ?_ | fail)
      conv => whnf
      refine VNext.at_ true ⟨[(0, natL a), (1, .int .i64 n), (7, natv 1)], [.gone, .gone], []⟩ ⟨⟨rfl, rfl, rfl, trivial⟩, rfl, rfl⟩ ?_
      repeat' ((conv => whnf); first | refine ngo ?_ | refine VB.tt ?_ | refine VB.ff ?_ | refine VNew.keep ?_ | refine dgo ?_ | refine sgo ?_ | fail)
      conv => whnf
      refine VLoop.tr true (fun x : Nat => ⟨[(0, natL a), (1, .int .i64 n), (7, natv (val a ^ x)), (8, .int .i64 x)], [.gone, .gone], []⟩) (fun x => x ≤ n ∧ (dg (val a ^ x)).length ≤ 1024) (fun x => n - x) 0 ⟨Nat.zero_le _, by rw [Nat.pow_zero, dg_len_one]; decide⟩ ⟨⟨rfl, rfl, by rw [Nat.pow_zero]; rfl, rfl, trivial⟩, rfl, rfl⟩ ?_
      rintro x ⟨hx, hxl⟩
      repeat' ((conv => whnf); first | refine ngo ?_ | refine VB.tt ?_ | refine VB.ff ?_ | refine VNew.keep ?_ | refine dgo ?_ | refine sgo ?_ | fail)
      conv => whnf
      refine VB.dec (fun hxn => ?_) (fun hxn => ?_)
      · have ht := rtimes_n (a := val a ^ x) (b := val a) (by omega) (by rw [dg_val ca]; omega)
        rw [← canon_natL ca, ← Nat.pow_succ] at ht
        repeat' ((conv => whnf); first | refine ngo ?_ | refine VB.tt ?_ | refine VB.ff ?_ | refine VNew.keep ?_ | refine dgo ?_ | refine sgo ?_ | fail)
        conv => whnf
        refine VCall.i (ht) ?_
        repeat' ((conv => whnf); first | refine ngo ?_ | refine VB.tt ?_ | refine VB.ff ?_ | refine VNew.keep ?_ | refine dgo ?_ | refine sgo ?_ | fail)
        conv => whnf
        refine VB.dec (fun hl => ?_) (fun hl => ?_)
        · have hmn : val a ^ (x + 1) ≤ val a ^ n := Nat.pow_le_pow_right (by omega) (by omega)
          have := dg_length_mono hmn
          rw [show x.succ = x + 1 from rfl] at hl
          repeat' ((conv => whnf); first | refine ngo ?_ | refine VB.tt ?_ | refine VB.ff ?_ | refine VNew.keep ?_ | refine dgo ?_ | refine sgo ?_ | fail)
          conv => whnf
          rw [addN, addE, if_pos (by omega), if_pos (by omega)]
          repeat' (first | exact fz_nil0 | exact Fz.nsl | exact Fz.same rfl (by repeat' (first | exact trivial | exact low_natL 0 _ | exact low_limbs 0 _ | refine And.intro ?_ ?_ | fail)) | refine Fz.tup ?_ | refine FzL.cons ?_ ?_ | exact FzL.nil | fail)
        · rw [show x.succ = x + 1 from rfl] at hl ⊢
          repeat' ((conv => whnf); first | refine ngo ?_ | refine VB.tt ?_ | refine VB.ff ?_ | refine VNew.keep ?_ | refine dgo ?_ | refine sgo ?_ | fail)
          conv => whnf
          exact ⟨x + 1, ⟨by omega, by omega⟩, by omega, [], by simp, by simp, ⟨⟨_, rfl, .gone⟩, ⟨_, rfl, .gone⟩, trivial⟩, FzFr.sub ⟨low_natL _ _, trivial, low_natL _ _, trivial, trivial⟩ ⟨rfl, rfl, rfl, by simp [lk], trivial⟩, rfl, by simp⟩
      · have : x = n := by omega
        subst this
        repeat' ((conv => whnf); first | refine ngo ?_ | refine VB.tt ?_ | refine VB.ff ?_ | refine VNew.keep ?_ | refine dgo ?_ | refine sgo ?_ | fail)
        conv => whnf
        rw [addN, addE, if_neg (by omega), if_neg (by omega)]
        repeat' (first | exact fz_nil0 | exact Fz.nsl | exact Fz.same rfl (by repeat' (first | exact trivial | exact low_natL 0 _ | exact low_limbs 0 _ | refine And.intro ?_ ?_ | fail)) | refine Fz.tup ?_ | refine FzL.cons ?_ ?_ | exact FzL.nil | fail)
  · rw [decide_eq_false hnp]
    have h3 : 1 < val a ∨ n = 0 := .inr (by omega)
    repeat' ((conv => whnf); first | refine ngo ?_ | refine VB.tt ?_ | refine VB.ff ?_ | refine dgo ?_ | refine sgo ?_ | fail)
    conv => whnf
    refine VNew.dat (cs' := limbs [1]) rfl rfl ?_
    rw [one_nat]
    repeat' ((conv => whnf); first | refine VB.tt ?_ | refine VB.ff ?_ | refine VNew.keep ?_ | refine dgo ?_ | refine sgo ?_ | fail)
    conv => whnf
    refine VNext.at_ true ⟨[(0, natL a), (1, .int .i64 n), (7, natv 1)], [.gone], []⟩ ⟨⟨rfl, rfl, rfl, trivial⟩, rfl, rfl⟩ ?_
    repeat' ((conv => whnf); first | refine ngo ?_ | refine VB.tt ?_ | refine VB.ff ?_ | refine VNew.keep ?_ | refine dgo ?_ | refine sgo ?_ | fail)
    conv => whnf
    refine VLoop.tr true (fun x : Nat => ⟨[(0, natL a), (1, .int .i64 n), (7, natv (val a ^ x)), (8, .int .i64 x)], [.gone], []⟩) (fun x => x ≤ n ∧ (dg (val a ^ x)).length ≤ 1024) (fun x => n - x) 0 ⟨Nat.zero_le _, by rw [Nat.pow_zero, dg_len_one]; decide⟩ ⟨⟨rfl, rfl, by rw [Nat.pow_zero]; rfl, rfl, trivial⟩, rfl, rfl⟩ ?_
    rintro x ⟨hx, hxl⟩
    repeat' ((conv => whnf); first | refine ngo ?_ | refine VB.tt ?_ | refine VB.ff ?_ | refine VNew.keep ?_ | refine dgo ?_ | refine sgo ?_ | fail)
    conv => whnf
    refine VB.dec (fun hxn => ?_) (fun hxn => ?_)
    · have ht := rtimes_n (a := val a ^ x) (b := val a) (by omega) (by rw [dg_val ca]; omega)
      rw [← canon_natL ca, ← Nat.pow_succ] at ht
      repeat' ((conv => whnf); first | refine ngo ?_ | refine VB.tt ?_ | refine VB.ff ?_ | refine VNew.keep ?_ | refine dgo ?_ | refine sgo ?_ | fail)
      conv => whnf
      refine VCall.i (ht) ?_
      repeat' ((conv => whnf); first | refine ngo ?_ | refine VB.tt ?_ | refine VB.ff ?_ | refine VNew.keep ?_ | refine dgo ?_ | refine sgo ?_ | fail)
      conv => whnf
      refine VB.dec (fun hl => ?_) (fun hl => ?_)
      · have hmn : val a ^ (x + 1) ≤ val a ^ n := Nat.pow_le_pow_right (by omega) (by omega)
        have := dg_length_mono hmn
        rw [show x.succ = x + 1 from rfl] at hl
        repeat' ((conv => whnf); first | refine ngo ?_ | refine VB.tt ?_ | refine VB.ff ?_ | refine VNew.keep ?_ | refine dgo ?_ | refine sgo ?_ | fail)
        conv => whnf
        rw [addN, addE, if_pos (by omega), if_pos (by omega)]
        repeat' (first | exact fz_nil0 | exact Fz.nsl | exact Fz.same rfl (by repeat' (first | exact trivial | exact low_natL 0 _ | exact low_limbs 0 _ | refine And.intro ?_ ?_ | fail)) | refine Fz.tup ?_ | refine FzL.cons ?_ ?_ | exact FzL.nil | fail)
      · rw [show x.succ = x + 1 from rfl] at hl ⊢
        repeat' ((conv => whnf); first | refine ngo ?_ | refine VB.tt ?_ | refine VB.ff ?_ | refine VNew.keep ?_ | refine dgo ?_ | refine sgo ?_ | fail)
        conv => whnf
        exact ⟨x + 1, ⟨by omega, by omega⟩, by omega, [], by simp, by simp, ⟨⟨_, rfl, .gone⟩, trivial⟩, FzFr.sub ⟨low_natL _ _, trivial, low_natL _ _, trivial, trivial⟩ ⟨rfl, rfl, rfl, by simp [lk], trivial⟩, rfl, by simp⟩
    · have : x = n := by omega
      subst this
      repeat' ((conv => whnf); first | refine ngo ?_ | refine VB.tt ?_ | refine VB.ff ?_ | refine VNew.keep ?_ | refine dgo ?_ | refine sgo ?_ | fail)
      conv => whnf
      rw [addN, addE, if_neg (by omega), if_neg (by omega)]
      repeat' (first | exact fz_nil0 | exact Fz.nsl | exact Fz.same rfl (by repeat' (first | exact trivial | exact low_natL 0 _ | exact low_limbs 0 _ | refine And.intro ?_ ?_ | fail)) | refine Fz.tup ?_ | refine FzL.cons ?_ ?_ | exact FzL.nil | fail)

theorem addN_len (n : Nat) : (dg (addN n)).length ≤ 1024 := by
  unfold addN
  split
  · rw [dg_zero]; decide
  · omega
theorem mulN_len (a b : Nat) : (dg (mulN a b)).length ≤ 1024 := addN_len (a * b)
theorem powN_len (a : List Nat) (n : Int) : (dg (powN a n)).length ≤ 1024 := by
  unfold powN
  split
  · exact addN_len _
  · rw [dg_zero]; decide

theorem mod_len (a b : Nat) (h : b ≤ a) : (dg (a - b)).length ≤ (dg a).length := dg_length_mono (Nat.sub_le _ _)
set_option maxHeartbeats 1000000 in
theorem sums_rest {a b : List Nat} {n : Int} (la : a.length ≤ 1100) (lb : b.length ≤ 1100) (n1 : -9223372036854775808 ≤ n) (n2 : n < 9223372036854775808) :
    vcode EE true Try.f5.ntmps none (nthSeq Try.f5 1) (vret EE Try.f5 fun v H => v = .bool true) ⟨[(0, natL a), (1, natL b), (2, .int .i64 n)], [], []⟩ := by
  repeat' ((conv => whnf); first | refine ngo ?_ | refine VB.tt ?_ | refine VB.ff ?_ | refine dgo ?_ | refine sgo ?_ | fail)
  conv => whnf
  refine VNew.keep ?_
  repeat' ((conv => whnf); first | refine ngo ?_ | refine VB.tt ?_ | refine VB.ff ?_ | refine dgo ?_ | refine sgo ?_ | fail)
  conv => whnf
  refine VNew.dat (cs' := limbs a) rfl ?_ ?_
  · rw [Nat.mul_one, Nat.zero_add, List.drop_zero]; exact List.take_of_length_le (by simp [limbs])
  repeat' ((conv => whnf); first | refine ngo ?_ | refine VB.tt ?_ | refine VB.ff ?_ | refine dgo ?_ | refine sgo ?_ | fail)
  conv => whnf
  refine VNew.keep ?_
  repeat' ((conv => whnf); first | refine ngo ?_ | refine VB.tt ?_ | refine VB.ff ?_ | refine dgo ?_ | refine sgo ?_ | fail)
  conv => whnf
  refine VNew.dat (cs' := limbs b) rfl ?_ ?_
  · rw [Nat.mul_one, Nat.zero_add, List.drop_zero]; exact List.take_of_length_le (by simp [limbs])
  rw [Nat.zero_add, Nat.zero_add]
  repeat' ((conv => whnf); first | refine VB.tt ?_ | refine VB.ff ?_ | refine VNew.keep ?_ | refine dgo ?_ | refine sgo ?_ | fail)
  conv => whnf
  refine VNext.at_ true ⟨[(0, natL a), (1, natL b), (2, .int .i64 n), (7, natL a), (8, natL b)], [.gone, .gone], []⟩ ⟨⟨rfl, rfl, rfl, rfl, by simp only [lk, Nat.zero_add]; rfl, trivial⟩, rfl, rfl⟩ ?_
  repeat' ((conv => whnf); first | refine ngo ?_ | refine VB.tt ?_ | refine VB.ff ?_ | refine VNew.keep ?_ | refine dgo ?_ | refine sgo ?_ | fail)
  conv => whnf
  obtain ⟨g, hg, lg⟩ := res2_ex a b (addN (val a + val b)) (fun h => addN_len _)
  have hn := nadd_c a b (by omega) (by omega)
  have hr := radd_c a b (by omega) (by omega)
  rw [hg] at hn hr
  generalize (if both2 a b = 0 then addE (val a + val b) else both2 a b) = e at hn hr
  refine VCall.i (hn) ?_
  repeat' ((conv => whnf); first | refine ngo ?_ | refine VB.tt ?_ | refine VB.ff ?_ | refine VNew.keep ?_ | refine dgo ?_ | refine sgo ?_ | fail)
  conv => whnf
  refine VCall.i (hr) ?_
  repeat' ((conv => whnf); first | refine ngo ?_ | refine VB.tt ?_ | refine VB.ff ?_ | refine VNew.keep ?_ | refine dgo ?_ | refine sgo ?_ | fail)
  conv => whnf
  refine VCall.s (alike_same (dg g) (by omega)) ?_
  repeat' ((conv => whnf); first | refine ngo ?_ | refine VB.tt ?_ | refine VB.ff ?_ | refine VNew.keep ?_ | refine dgo ?_ | refine sgo ?_ | fail)
  conv => whnf
  refine VB.ne (fun h => absurd rfl h) (fun h => ?_)
  repeat' ((conv => whnf); first | refine VB.tt ?_ | refine VB.ff ?_ | refine VNew.keep ?_ | refine dgo ?_ | refine sgo ?_ | fail)
  conv => whnf
  refine VNext.at_ true ⟨[(0, natL a), (1, natL b), (2, .int .i64 n), (7, natL a), (8, natL b)], [.gone, .gone], []⟩ ⟨⟨rfl, rfl, rfl, rfl, rfl, trivial⟩, rfl, rfl⟩ ?_
  repeat' ((conv => whnf); first | refine ngo ?_ | refine VB.tt ?_ | refine VB.ff ?_ | refine VNew.keep ?_ | refine dgo ?_ | refine sgo ?_ | fail)
  conv => whnf
  clear h hn hr hg lg
  obtain ⟨g, hg, lg⟩ := res2_ex a b (val a - val b) (fun h => by
    obtain ⟨h1, h2⟩ := both2_zero h
    obtain ⟨ca, la⟩ := chk_zero h1
    have := dg_length_mono (Nat.sub_le (val a) (val b))
    rw [dg_val ca] at this
    omega)
  have hn := nsub_c a b (by omega) (by omega)
  have hr := rsub_c a b (by omega) (by omega)
  rw [hg] at hn hr
  generalize (if both2 a b = 0 then subE (val a) (val b) else both2 a b) = e at hn hr
  refine VCall.i (hn) ?_
  repeat' ((conv => whnf); first | refine ngo ?_ | refine VB.tt ?_ | refine VB.ff ?_ | refine VNew.keep ?_ | refine dgo ?_ | refine sgo ?_ | fail)
  conv => whnf
  refine VCall.i (hr) ?_
  repeat' ((conv => whnf); first | refine ngo ?_ | refine VB.tt ?_ | refine VB.ff ?_ | refine VNew.keep ?_ | refine dgo ?_ | refine sgo ?_ | fail)
  conv => whnf
  refine VCall.s (alike_same (dg g) (by omega)) ?_
  repeat' ((conv => whnf); first | refine ngo ?_ | refine VB.tt ?_ | refine VB.ff ?_ | refine VNew.keep ?_ | refine dgo ?_ | refine sgo ?_ | fail)
  conv => whnf
  refine VB.ne (fun h => absurd rfl h) (fun h => ?_)
  repeat' ((conv => whnf); first | refine VB.tt ?_ | refine VB.ff ?_ | refine VNew.keep ?_ | refine dgo ?_ | refine sgo ?_ | fail)
  conv => whnf
  refine VNext.at_ true ⟨[(0, natL a), (1, natL b), (2, .int .i64 n), (7, natL a), (8, natL b)], [.gone, .gone], []⟩ ⟨⟨rfl, rfl, rfl, rfl, rfl, trivial⟩, rfl, rfl⟩ ?_
  repeat' ((conv => whnf); first | refine ngo ?_ | refine VB.tt ?_ | refine VB.ff ?_ | refine VNew.keep ?_ | refine dgo ?_ | refine sgo ?_ | fail)
  conv => whnf
  clear h hn hr hg lg
  obtain ⟨g, hg, lg⟩ := res2_ex a b (mulN (val a) (val b)) (fun h => mulN_len _ _)
  have hn := nmul_c a b (by omega) (by omega)
  have hr := rmul_c a b (by omega) (by omega)
  rw [hg] at hn hr
  generalize (if both2 a b = 0 then mulE (val a) (val b) else both2 a b) = e at hn hr
  refine VCall.i (hn) ?_
  repeat' ((conv => whnf); first | refine ngo ?_ | refine VB.tt ?_ | refine VB.ff ?_ | refine VNew.keep ?_ | refine dgo ?_ | refine sgo ?_ | fail)
  conv => whnf
  refine VCall.i (hr) ?_
  repeat' ((conv => whnf); first | refine ngo ?_ | refine VB.tt ?_ | refine VB.ff ?_ | refine VNew.keep ?_ | refine dgo ?_ | refine sgo ?_ | fail)
  conv => whnf
  refine VCall.s (alike_same (dg g) (by omega)) ?_
  repeat' ((conv => whnf); first | refine ngo ?_ | refine VB.tt ?_ | refine VB.ff ?_ | refine VNew.keep ?_ | refine dgo ?_ | refine sgo ?_ | fail)
  conv => whnf
  refine VB.ne (fun h => absurd rfl h) (fun h => ?_)
  repeat' ((conv => whnf); first | refine VB.tt ?_ | refine VB.ff ?_ | refine VNew.keep ?_ | refine dgo ?_ | refine sgo ?_ | fail)
  conv => whnf
  refine VNext.at_ true ⟨[(0, natL a), (1, natL b), (2, .int .i64 n), (7, natL a), (8, natL b)], [.gone, .gone], []⟩ ⟨⟨rfl, rfl, rfl, rfl, rfl, trivial⟩, rfl, rfl⟩ ?_
  repeat' ((conv => whnf); first | refine ngo ?_ | refine VB.tt ?_ | refine VB.ff ?_ | refine VNew.keep ?_ | refine dgo ?_ | refine sgo ?_ | fail)
  conv => whnf
  clear h hn hr hg lg
  have hn := npow_c a n (by omega) n1 n2
  have hr := rpow_c a n (by omega) n1 n2
  have lg := powN_len a n
  generalize powN a n = g at *
  generalize powE a n = e at *
  refine VCall.i (hn) ?_
  repeat' ((conv => whnf); first | refine ngo ?_ | refine VB.tt ?_ | refine VB.ff ?_ | refine VNew.keep ?_ | refine dgo ?_ | refine sgo ?_ | fail)
  conv => whnf
  refine VCall.i (hr) ?_
  repeat' ((conv => whnf); first | refine ngo ?_ | refine VB.tt ?_ | refine VB.ff ?_ | refine VNew.keep ?_ | refine dgo ?_ | refine sgo ?_ | fail)
  conv => whnf
  refine VCall.s (alike_same (dg g) (by omega)) ?_
  repeat' ((conv => whnf); first | refine ngo ?_ | refine VB.tt ?_ | refine VB.ff ?_ | refine VNew.keep ?_ | refine dgo ?_ | refine sgo ?_ | fail)
  conv => whnf
  rw [beq_self_eq_true]
  repeat' ((conv => whnf); first | refine ngo ?_ | refine VB.tt ?_ | refine VB.ff ?_ | refine VNew.keep ?_ | refine dgo ?_ | refine sgo ?_ | fail)
  conv => whnf
  refine VCall.s (alike_same a (by omega)) ?_
  repeat' ((conv => whnf); first | refine ngo ?_ | refine VB.tt ?_ | refine VB.ff ?_ | refine VNew.keep ?_ | refine dgo ?_ | refine sgo ?_ | fail)
  conv => whnf
  refine VCall.s (alike_same b (by omega)) ?_
  repeat' ((conv => whnf); first | refine ngo ?_ | refine VB.tt ?_ | refine VB.ff ?_ | refine VNew.keep ?_ | refine dgo ?_ | refine sgo ?_ | fail)
  conv => whnf
  refine VCall.s (awake_c) ?_
  repeat' ((conv => whnf); first | refine ngo ?_ | refine VB.tt ?_ | refine VB.ff ?_ | refine VNew.keep ?_ | refine dgo ?_ | refine sgo ?_ | fail)
  conv => whnf

theorem natsums_c (a b : List Nat) (n : Int) (n1 : -9223372036854775808 ≤ n) (n2 : n < 9223372036854775808) : VCall EE 5 [natL a, natL b, .int .i64 n] [] fun v H => v = .bool true := by
  refine VCall.of_body true Try.func5 rfl (by decide) rfl ?_
  repeat' ((conv => whnf); first | refine ngo ?_ | refine VB.tt ?_ | refine VB.ff ?_ | refine VNew.keep ?_ | refine dgo ?_ | refine sgo ?_ | fail)
  conv => whnf
  refine VCall.s (long_c a 60) ?_
  repeat' ((conv => whnf); first | refine ngo ?_ | refine VB.tt ?_ | refine VB.ff ?_ | refine VNew.keep ?_ | refine dgo ?_ | refine sgo ?_ | fail)
  conv => whnf
  by_cases h1 : (60 < a.length ∧ a.length ≤ 1024) ∨ 1100 < a.length
  · rw [decide_eq_true h1]
    repeat' ((conv => whnf); first | refine ngo ?_ | refine VB.tt ?_ | refine VB.ff ?_ | refine VNew.keep ?_ | refine dgo ?_ | refine sgo ?_ | fail)
    conv => whnf
    refine VCall.s (awake_c) ?_
    repeat' ((conv => whnf); first | refine ngo ?_ | refine VB.tt ?_ | refine VB.ff ?_ | refine VNew.keep ?_ | refine dgo ?_ | refine sgo ?_ | fail)
    conv => whnf
  rw [decide_eq_false h1]
  repeat' ((conv => whnf); first | refine ngo ?_ | refine VB.tt ?_ | refine VB.ff ?_ | refine VNew.keep ?_ | refine dgo ?_ | refine sgo ?_ | fail)
  conv => whnf
  refine VCall.s (long_c b 60) ?_
  repeat' ((conv => whnf); first | refine ngo ?_ | refine VB.tt ?_ | refine VB.ff ?_ | refine VNew.keep ?_ | refine dgo ?_ | refine sgo ?_ | fail)
  conv => whnf
  by_cases h2 : (60 < b.length ∧ b.length ≤ 1024) ∨ 1100 < b.length
  · rw [decide_eq_true h2]
    repeat' ((conv => whnf); first | refine ngo ?_ | refine VB.tt ?_ | refine VB.ff ?_ | refine VNew.keep ?_ | refine dgo ?_ | refine sgo ?_ | fail)
    conv => whnf
    refine VCall.s (awake_c) ?_
    repeat' ((conv => whnf); first | refine ngo ?_ | refine VB.tt ?_ | refine VB.ff ?_ | refine VNew.keep ?_ | refine dgo ?_ | refine sgo ?_ | fail)
    conv => whnf
  rw [decide_eq_false h2]
  have la : a.length ≤ 1100 := by omega
  have lb : b.length ≤ 1100 := by omega
  repeat' ((conv => whnf); first | refine ngo ?_ | refine VB.tt ?_ | refine VB.ff ?_ | refine VNew.keep ?_ | refine dgo ?_ | refine sgo ?_ | fail)
  conv => whnf
  by_cases h3 : n > 0
  · rw [decide_eq_true h3]
    repeat' ((conv => whnf); first | refine ngo ?_ | refine VB.tt ?_ | refine VB.ff ?_ | refine VNew.keep ?_ | refine dgo ?_ | refine sgo ?_ | fail)
    conv => whnf
    by_cases h4 : n ≤ 10000
    · rw [decide_eq_true h4]
      obtain ⟨k, rfl⟩ : ∃ k : Nat, n = (k : Int) := ⟨n.toNat, by omega⟩
      have hkl : k * a.length ≤ 10000 * 1100 := Nat.mul_le_mul (by omega) la
      have hkl' : (k : Int) * (a.length : Int) = ((k * a.length : Nat) : Int) := by simp
      generalize hm : k * a.length = m at *
      repeat' ((conv => whnf); first | refine ngo ?_ | refine VB.tt ?_ | refine VB.ff ?_ | refine VNew.keep ?_ | refine dgo ?_ | refine sgo ?_ | fail)
      conv => whnf
      rw [hkl']
      repeat' ((conv => whnf); first | refine ngo ?_ | refine VB.tt ?_ | refine VB.ff ?_ | refine VNew.keep ?_ | refine dgo ?_ | refine sgo ?_ | fail)
      conv => whnf
      refine VB.dec (fun h5 => ?_) (fun h5 => ?_)
      · repeat' ((conv => whnf); first | refine ngo ?_ | refine VB.tt ?_ | refine VB.ff ?_ | refine VNew.keep ?_ | refine dgo ?_ | refine sgo ?_ | fail)
        conv => whnf
        refine VCall.s (awake_c) ?_
        repeat' ((conv => whnf); first | refine ngo ?_ | refine VB.tt ?_ | refine VB.ff ?_ | refine VNew.keep ?_ | refine dgo ?_ | refine sgo ?_ | fail)
        conv => whnf
      · repeat' ((conv => whnf); first | refine VB.tt ?_ | refine VB.ff ?_ | refine VNew.keep ?_ | refine dgo ?_ | refine sgo ?_ | fail)
        conv => whnf
        exact VNext.at_ true ⟨[(0, natL a), (1, natL b), (2, .int .i64 k)], [], []⟩ ⟨⟨rfl, rfl, rfl, trivial⟩, rfl, rfl⟩ (sums_rest la lb n1 n2)
    · rw [decide_eq_false h4]
      repeat' ((conv => whnf); first | refine VB.tt ?_ | refine VB.ff ?_ | refine VNew.keep ?_ | refine dgo ?_ | refine sgo ?_ | fail)
      conv => whnf
      refine VNext.go true ?_
      repeat' ((conv => whnf); first | refine VB.tt ?_ | refine VB.ff ?_ | refine VNew.keep ?_ | refine dgo ?_ | refine sgo ?_ | fail)
      conv => whnf
      exact VNext.at_ true ⟨[(0, natL a), (1, natL b), (2, .int .i64 n)], [], []⟩ ⟨⟨rfl, rfl, rfl, trivial⟩, rfl, rfl⟩ (sums_rest la lb n1 n2)
  · rw [decide_eq_false h3]
    repeat' ((conv => whnf); first | refine VB.tt ?_ | refine VB.ff ?_ | refine VNew.keep ?_ | refine dgo ?_ | refine sgo ?_ | fail)
    conv => whnf
    refine VNext.go true ?_
    repeat' ((conv => whnf); first | refine VB.tt ?_ | refine VB.ff ?_ | refine VNew.keep ?_ | refine dgo ?_ | refine sgo ?_ | fail)
    conv => whnf
    exact VNext.at_ true ⟨[(0, natL a), (1, natL b), (2, .int .i64 n)], [], []⟩ ⟨⟨rfl, rfl, rfl, trivial⟩, rfl, rfl⟩ (sums_rest la lb n1 n2)
end Go.Proofs.Ytcdnonggajoghaa
