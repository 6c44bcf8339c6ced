/- Contracts: the law's own helpers. -/
import Derived.Test.YtcdnonggajoghaaC11
namespace Go.Proofs.Ytcdnonggajoghaa
open Go Go.RowKit
set_option linter.unusedVariables false
set_option linter.unusedSimpArgs false
set_option maxRecDepth 100000

theorem long_c (a : List Nat) (most : Nat) : VCall EE 7 [natL a, .int .i64 most] [] fun v H => v = .bool (decide ((most < a.length ∧ a.length ≤ 1024) ∨ 1100 < a.length)) := by
  refine VCall.of_body true Try.func7 rfl (by decide) rfl ?_
  repeat' ((conv => whnf); first | refine ngo ?_ | refine VB.tt ?_ | refine VB.ff ?_ | refine VNew.keep ?_ | refine dgo ?_ | refine sgo ?_ | fail)
  conv => whnf
  by_cases h1 : (a.length : Int) > (most : Int)
  · rw [decide_eq_true h1]
    repeat' ((conv => whnf); first | refine ngo ?_ | refine VB.tt ?_ | refine VB.ff ?_ | refine VNew.keep ?_ | refine dgo ?_ | refine sgo ?_ | fail)
    conv => whnf
    by_cases h2 : (a.length : Int) ≤ 1024
    · rw [decide_eq_true h2]
      repeat' ((conv => whnf); first | refine ngo ?_ | refine VB.tt ?_ | refine VB.ff ?_ | refine VNew.keep ?_ | refine dgo ?_ | refine sgo ?_ | fail)
      conv => whnf
      rw [decide_eq_true (by omega)]
    · rw [decide_eq_false h2]
      repeat' ((conv => whnf); first | refine ngo ?_ | refine VB.tt ?_ | refine VB.ff ?_ | refine VNew.keep ?_ | refine dgo ?_ | refine sgo ?_ | fail)
      conv => whnf
      by_cases h3 : (a.length : Int) > 1100
      · rw [decide_eq_true h3, decide_eq_true (by omega)]
      · rw [decide_eq_false h3, decide_eq_false (by omega)]
  · rw [decide_eq_false h1]
    repeat' ((conv => whnf); first | refine ngo ?_ | refine VB.tt ?_ | refine VB.ff ?_ | refine VNew.keep ?_ | refine dgo ?_ | refine sgo ?_ | fail)
    conv => whnf
    by_cases h3 : (a.length : Int) > 1100
    · rw [decide_eq_true h3, decide_eq_true (by omega)]
    · rw [decide_eq_false h3, decide_eq_false (by omega)]

theorem nof_c (n : Int) (h1 : -9223372036854775808 ≤ n) (h2 : n < 9223372036854775808) : VCall EE 30 [.int .i64 n] [] fun v H => Fz H 0 [] v (.tup [natv n.toNat, .int .i64 (if n < 0 then 2 else 0)]) := by
  refine VCall.of_body true Try.func30 rfl (by decide) rfl ?_
  repeat' ((conv => whnf); first | refine ngo ?_ | refine VB.tt ?_ | refine VB.ff ?_ | refine VNew.keep ?_ | refine dgo ?_ | refine sgo ?_ | fail)
  conv => whnf
  refine VB.dec (fun h => ?_) (fun h => ?_)
  · repeat' ((conv => whnf); first | refine ngo ?_ | refine VB.tt ?_ | refine VB.ff ?_ | refine VNew.keep ?_ | refine dgo ?_ | refine sgo ?_ | fail)
    conv => whnf
    rw [if_pos h, show n.toNat = 0 by omega]
    repeat' (first | exact fz_nil0 | exact Fz.nsl | exact Fz.same rfl (by repeat' (first | exact trivial | exact low_natL 0 _ | exact low_limbs 0 _ | refine And.intro ?_ ?_ | fail)) | refine Fz.tup ?_ | refine FzL.cons ?_ ?_ | exact FzL.nil | fail)
  · obtain ⟨k, rfl⟩ : ∃ k : Nat, n = (k : Int) := ⟨n.toNat, by omega⟩
    repeat' ((conv => whnf); first | refine ngo ?_ | refine VB.tt ?_ | refine VB.ff ?_ | refine VNew.keep ?_ | refine dgo ?_ | refine sgo ?_ | fail)
    conv => whnf
    refine VCall.i (of_c k (by omega)) ?_
    repeat' ((conv => whnf); first | refine ngo ?_ | refine VB.tt ?_ | refine VB.ff ?_ | refine VNew.keep ?_ | refine dgo ?_ | refine sgo ?_ | fail)
    conv => whnf
    rw [if_neg h, Int.toNat_natCast]
    repeat' (first | exact fz_nil0 | exact Fz.nsl | exact Fz.same rfl (by repeat' (first | exact trivial | exact low_natL 0 _ | exact low_limbs 0 _ | refine And.intro ?_ ?_ | fail)) | refine Fz.tup ?_ | refine FzL.cons ?_ ?_ | exact FzL.nil | fail)

def mulN (a b : Nat) : Nat := if 1024 < (dg (a * b)).length then 0 else a * b
def mulE (a b : Nat) : Int := if 1024 < (dg (a * b)).length then 5 else 0
theorem mul_len {a b : List Nat} (ca : canon a) (cb : canon b) (la : a.length ≤ 1024) (lb : b.length ≤ 1024) : (dg (val a * val b)).length ≤ 2048 := by
  have h2 := dg_mul_le (val a) (val b)
  rw [dg_val ca, dg_val cb] at h2
  omega

theorem nmul1_c {a b : List Nat} (ca : canon a) (cb : canon b) (la : a.length ≤ 1024) (lb : b.length ≤ 1024) : VCall EE 52 [natL a, natL b] [] fun v H => Fz H 0 [] v (.tup [natv (mulN (val a) (val b)), .int .i64 (mulE (val a) (val b))]) := by
  refine VCall.of_body true Try.func52 rfl (by decide) rfl ?_
  have hp := product_n (a := val a) (b := val b) (by rw [dg_val ca]; omega) (by rw [dg_val cb]; omega)
  rw [← canon_natL ca, ← canon_natL cb] at hp
  have hl := mul_len ca cb la lb
  repeat' ((conv => whnf); first | refine ngo ?_ | refine VB.tt ?_ | refine VB.ff ?_ | refine VNew.keep ?_ | refine dgo ?_ | refine sgo ?_ | fail)
  conv => whnf
  refine VCall.i (hp) ?_
  repeat' ((conv => whnf); first | refine ngo ?_ | refine VB.tt ?_ | refine VB.ff ?_ | refine VNew.keep ?_ | refine dgo ?_ | refine sgo ?_ | fail)
  conv => whnf
  refine VCall.i (fits_c (by omega)) ?_
  repeat' ((conv => whnf); first | refine ngo ?_ | refine VB.tt ?_ | refine VB.ff ?_ | refine VNew.keep ?_ | refine dgo ?_ | refine sgo ?_ | fail)
  conv => whnf
  rw [mulN, mulE]
  repeat' (first | exact fz_nil0 | exact Fz.nsl | exact Fz.same rfl (by repeat' (first | exact trivial | exact low_natL 0 _ | exact low_limbs 0 _ | refine And.intro ?_ ?_ | fail)) | refine Fz.tup ?_ | refine FzL.cons ?_ ?_ | exact FzL.nil | fail)

theorem nmul_c (a b : List Nat) (la : a.length < 1000000000000000000) (lb : b.length < 1000000000000000000) : VCall EE 25 [natL a, natL b] [] fun v H => Fz H 0 [] v (res2 a b (mulN (val a) (val b)) (mulE (val a) (val b))) := by
  refine VCall.of_body true Try.func25 rfl (by decide) rfl ?_
  repeat' ((conv => whnf); first | refine ngo ?_ | refine VB.tt ?_ | refine VB.ff ?_ | refine VNew.keep ?_ | refine dgo ?_ | refine sgo ?_ | fail)
  conv => whnf
  refine VCall.i (with_c la lb (fun h => nmul1_c (chk_zero (both2_zero h).1).1 (chk_zero (both2_zero h).2).1 (chk_zero (both2_zero h).1).2 (chk_zero (both2_zero h).2).2)) ?_
  repeat' ((conv => whnf); first | refine ngo ?_ | refine VB.tt ?_ | refine VB.ff ?_ | refine VNew.keep ?_ | refine dgo ?_ | refine sgo ?_ | fail)
  conv => whnf
  repeat' (first | exact fz_nil0 | exact Fz.nsl | exact Fz.same rfl (by repeat' (first | exact trivial | exact low_natL 0 _ | exact low_limbs 0 _ | refine And.intro ?_ ?_ | fail)) | refine Fz.tup ?_ | refine FzL.cons ?_ ?_ | exact FzL.nil | fail)

theorem is_c {a w : List Nat} {e : Int} (la : a.length < 1000000000) (lw : w.length < 1000000000) : VCall EE 20 [natL a, .int .i64 e, natL w] [] fun v H => v = .bool (e == 0 && decide (a = w)) := by
  refine VCall.of_body true Try.func20 rfl (by decide) rfl ?_
  repeat' ((conv => whnf); first | refine ngo ?_ | refine VB.tt ?_ | refine VB.ff ?_ | refine VNew.keep ?_ | refine dgo ?_ | refine sgo ?_ | fail)
  conv => whnf
  cases h : (e == 0) with
  | true =>
    repeat' ((conv => whnf); first | refine ngo ?_ | refine VB.tt ?_ | refine VB.ff ?_ | refine VNew.keep ?_ | refine dgo ?_ | refine sgo ?_ | fail)
    conv => whnf
    refine VCall.s (alike_c la lw) ?_
    repeat' ((conv => whnf); first | refine ngo ?_ | refine VB.tt ?_ | refine VB.ff ?_ | refine VNew.keep ?_ | refine dgo ?_ | refine sgo ?_ | fail)
    conv => whnf
    rw [Bool.true_and]
  | false =>
    repeat' ((conv => whnf); first | refine ngo ?_ | refine VB.tt ?_ | refine VB.ff ?_ | refine VNew.keep ?_ | refine dgo ?_ | refine sgo ?_ | fail)
    conv => whnf
    rfl

theorem is_same {w : List Nat} (lw : w.length < 1000) : VCall EE 20 [natL w, .int .i64 0, natL w] [] fun v H => v = .bool true := by
  have h := is_c (a := w) (w := w) (e := 0) (by omega) (by omega)
  rwa [decide_eq_true rfl] at h

theorem alike_same (a : List Nat) (la : a.length < 1000000000) : VCall EE 11 [natL a, natL a] [] fun v H => v = .bool true := by
  have h := alike_c la la
  rwa [decide_eq_true rfl] at h

theorem natv_lit {w : List Nat} {n : Nat} (hw : canonB w = true) (hn : val w = n) : natv n = natL w := by
  rw [natv, ← hn, dg_val (canonB_iff.1 hw)]

theorem dg_len_of {n : Nat} {w : List Nat} (hw : canonB w = true) (hn : val w = n) : (dg n).length = w.length := by rw [← hn, dg_val (canonB_iff.1 hw)]

theorem awake_c : VCall EE 8 [] [] fun v H => v = .bool true := by
  refine VCall.of_body true Try.func8 rfl (by decide) rfl ?_
  repeat' ((conv => whnf); first | refine ngo ?_ | refine VB.tt ?_ | refine VB.ff ?_ | refine VNew.keep ?_ | refine dgo ?_ | refine sgo ?_ | fail)
  conv => whnf
  have h1 := nof_c 12345678901 (by decide) (by decide)
  rw [if_neg (by decide), show (12345678901 : Int).toNat = 12345678901 from rfl, natv_lit (w := [345678901, 12]) (by decide) (by decide)] at h1
  refine VCall.i (h1) ?_
  repeat' ((conv => whnf); first | refine ngo ?_ | refine VB.tt ?_ | refine VB.ff ?_ | refine dgo ?_ | refine sgo ?_ | fail)
  conv => whnf
  refine VNew.dat (cs' := limbs [999999999]) rfl rfl ?_
  repeat' ((conv => whnf); first | refine ngo ?_ | refine VB.tt ?_ | refine VB.ff ?_ | refine dgo ?_ | refine sgo ?_ | fail)
  conv => whnf
  refine VNew.dat (cs' := limbs [999999999]) rfl rfl ?_
  repeat' ((conv => whnf); first | refine ngo ?_ | refine VB.tt ?_ | refine VB.ff ?_ | refine VNew.keep ?_ | refine dgo ?_ | refine sgo ?_ | fail)
  conv => whnf
  have h2 := nmul_c [999999999] [999999999] (by decide) (by decide)
  rw [res2, show both2 [999999999] [999999999] = 0 by decide, if_pos rfl, if_pos rfl, mulN, mulE, show val [999999999] * val [999999999] = 999999998000000001 by decide, dg_len_of (w := [1, 999999998]) (by decide) (by decide), if_neg (by decide), if_neg (by decide), natv_lit (w := [1, 999999998]) (by decide) (by decide)] at h2
  show VCall EE _ [natL [999999999], natL [999999999]] [.gone, .gone] _
  refine VCall.i (h2) ?_
  repeat' ((conv => whnf); first | refine ngo ?_ | refine VB.tt ?_ | refine VB.ff ?_ | refine dgo ?_ | refine sgo ?_ | fail)
  conv => whnf
  refine VNew.dat (cs' := limbs [0, 0, 1]) rfl rfl ?_
  repeat' ((conv => whnf); first | refine ngo ?_ | refine VB.tt ?_ | refine VB.ff ?_ | refine dgo ?_ | refine sgo ?_ | fail)
  conv => whnf
  refine VNew.dat (cs' := limbs [7]) rfl rfl ?_
  repeat' ((conv => whnf); first | refine ngo ?_ | refine VB.tt ?_ | refine VB.ff ?_ | refine VNew.keep ?_ | refine dgo ?_ | refine sgo ?_ | fail)
  conv => whnf
  have h3 := ndiv_c [0, 0, 1] [7] (by decide) (by decide)
  rw [divR, show both2 [0, 0, 1] [7] = 0 by decide, if_pos rfl, if_neg (by decide), show val [0, 0, 1] / val [7] = 142857142857142857 by decide, show val [0, 0, 1] % val [7] = 1 by decide, natv_lit (n := 142857142857142857) (w := [857142857, 142857142]) (by decide) (by decide), natv_lit (n := 1) (w := [1]) (by decide) (by decide)] at h3
  show VCall EE _ [natL [0, 0, 1], natL [7]] [.gone, .gone, .gone, .gone] _
  refine VCall.i (h3) ?_
  repeat' ((conv => whnf); first | refine ngo ?_ | refine VB.tt ?_ | refine VB.ff ?_ | refine dgo ?_ | refine sgo ?_ | fail)
  conv => whnf
  refine VNew.dat (cs' := limbs [345678901, 12]) rfl rfl ?_
  repeat' ((conv => whnf); first | refine ngo ?_ | refine VB.tt ?_ | refine VB.ff ?_ | refine VNew.keep ?_ | refine dgo ?_ | refine sgo ?_ | fail)
  conv => whnf
  show VCall EE _ [natL [345678901, 12], .int .i64 0, natL [345678901, 12]] [.gone, .gone, .gone, .gone, .gone] _
  refine VCall.s (is_same (by decide)) ?_
  repeat' ((conv => whnf); first | refine ngo ?_ | refine VB.tt ?_ | refine VB.ff ?_ | refine dgo ?_ | refine sgo ?_ | fail)
  conv => whnf
  refine VNew.dat (cs' := limbs [1, 999999998]) rfl rfl ?_
  repeat' ((conv => whnf); first | refine ngo ?_ | refine VB.tt ?_ | refine VB.ff ?_ | refine VNew.keep ?_ | refine dgo ?_ | refine sgo ?_ | fail)
  conv => whnf
  show VCall EE _ [natL [1, 999999998], .int .i64 0, natL [1, 999999998]] [.gone, .gone, .gone, .gone, .gone, .gone] _
  refine VCall.s (is_same (by decide)) ?_
  repeat' ((conv => whnf); first | refine ngo ?_ | refine VB.tt ?_ | refine VB.ff ?_ | refine dgo ?_ | refine sgo ?_ | fail)
  conv => whnf
  refine VNew.dat (cs' := limbs [857142857, 142857142]) rfl rfl ?_
  repeat' ((conv => whnf); first | refine ngo ?_ | refine VB.tt ?_ | refine VB.ff ?_ | refine VNew.keep ?_ | refine dgo ?_ | refine sgo ?_ | fail)
  conv => whnf
  show VCall EE _ [natL [857142857, 142857142], .int .i64 0, natL [857142857, 142857142]] [.gone, .gone, .gone, .gone, .gone, .gone, .gone] _
  refine VCall.s (is_same (by decide)) ?_
  repeat' ((conv => whnf); first | refine ngo ?_ | refine VB.tt ?_ | refine VB.ff ?_ | refine dgo ?_ | refine sgo ?_ | fail)
  conv => whnf
  refine VNew.dat (cs' := limbs [1]) rfl rfl ?_
  repeat' ((conv => whnf); first | refine ngo ?_ | refine VB.tt ?_ | refine VB.ff ?_ | refine VNew.keep ?_ | refine dgo ?_ | refine sgo ?_ | fail)
  conv => whnf
  show VCall EE _ [natL [1], .int .i64 0, natL [1]] [.gone, .gone, .gone, .gone, .gone, .gone, .gone, .gone] _
  refine VCall.s (is_same (by decide)) ?_
  repeat' ((conv => whnf); first | refine ngo ?_ | refine VB.tt ?_ | refine VB.ff ?_ | refine VNew.keep ?_ | refine dgo ?_ | refine sgo ?_ | fail)
  conv => whnf

theorem divR_ex (a b : List Nat) (la : a.length < 10000) : ∃ q r : Nat, ∃ e : Int, divR a b = .tup [natv q, natv r, .int .i64 e] ∧ (dg q).length < 100000 ∧ (dg r).length < 100000 := by
  unfold divR
  split
  · rename_i h
    obtain ⟨h1, h2⟩ := both2_zero h
    obtain ⟨ca, la⟩ := chk_zero h1
    split
    · exact ⟨_, _, _, rfl, by rw [dg_zero]; decide, by rw [dg_zero]; decide⟩
    · refine ⟨_, _, _, rfl, ?_, ?_⟩
      · have := dg_length_mono (Nat.div_le_self (val a) (val b))
        rw [dg_val ca] at this
        omega
      · have := dg_length_mono (Nat.mod_le (val a) (val b))
        rw [dg_val ca] at this
        omega
  · exact ⟨_, _, _, rfl, by rw [dg_zero]; decide, by rw [dg_zero]; decide⟩

theorem lcmN_len (a b : Nat) : (dg (lcmN a b)).length ≤ 1024 := by
  unfold lcmN
  split
  · rw [dg_zero]; decide
  · omega
theorem res2_ex (a b : List Nat) (n : Nat) (hn : both2 a b = 0 → (dg n).length ≤ 1024) : ∃ g : Nat, (∀ e, res2 a b n e = .tup [natv g, .int .i64 (if both2 a b = 0 then e else both2 a b)]) ∧ (dg g).length ≤ 1024 := by
  refine ⟨_, fun e => rfl, ?_⟩
  split
  · exact hn (by assumption)
  · rw [dg_zero]; decide

set_option maxHeartbeats 2000000 in
theorem natquotients_c (a b : List Nat) : VCall EE 3 [natL a, natL b] [] fun v H => v = .bool true := by
  refine VCall.of_body true Try.func3 rfl (by decide) rfl ?_
  repeat' ((conv => whnf); first | refine ngo ?_ | refine VB.tt ?_ | refine VB.ff ?_ | refine VNew.keep ?_ | refine dgo ?_ | refine sgo ?_ | fail)
  conv => whnf
  refine VCall.s (long_c a 30) ?_
  repeat' ((conv => whnf); first | refine ngo ?_ | refine VB.tt ?_ | refine VB.ff ?_ | refine VNew.keep ?_ | refine dgo ?_ | refine sgo ?_ | fail)
  conv => whnf
  by_cases h1 : (30 < a.length ∧ a.length ≤ 1024) ∨ 1100 < a.length
  · rw [decide_eq_true h1]
    repeat' ((conv => whnf); first | refine ngo ?_ | refine VB.tt ?_ | refine VB.ff ?_ | refine VNew.keep ?_ | refine dgo ?_ | refine sgo ?_ | fail)
    conv => whnf
    refine VCall.s (awake_c) ?_
    repeat' ((conv => whnf); first | refine ngo ?_ | refine VB.tt ?_ | refine VB.ff ?_ | refine VNew.keep ?_ | refine dgo ?_ | refine sgo ?_ | fail)
    conv => whnf
  rw [decide_eq_false h1]
  repeat' ((conv => whnf); first | refine ngo ?_ | refine VB.tt ?_ | refine VB.ff ?_ | refine VNew.keep ?_ | refine dgo ?_ | refine sgo ?_ | fail)
  conv => whnf
  refine VCall.s (long_c b 30) ?_
  repeat' ((conv => whnf); first | refine ngo ?_ | refine VB.tt ?_ | refine VB.ff ?_ | refine VNew.keep ?_ | refine dgo ?_ | refine sgo ?_ | fail)
  conv => whnf
  refine VB.dec (fun h2 => ?_) (fun h2 => ?_)
  · repeat' ((conv => whnf); first | refine ngo ?_ | refine VB.tt ?_ | refine VB.ff ?_ | refine VNew.keep ?_ | refine dgo ?_ | refine sgo ?_ | fail)
    conv => whnf
    refine VCall.s (awake_c) ?_
    repeat' ((conv => whnf); first | refine ngo ?_ | refine VB.tt ?_ | refine VB.ff ?_ | refine VNew.keep ?_ | refine dgo ?_ | refine sgo ?_ | fail)
    conv => whnf
  have la : a.length ≤ 1100 := by omega
  have lb : b.length ≤ 1100 := by omega
  repeat' ((conv => whnf); first | refine ngo ?_ | refine VB.tt ?_ | refine VB.ff ?_ | refine dgo ?_ | refine sgo ?_ | fail)
  conv => whnf
  refine VNew.keep ?_
  repeat' ((conv => whnf); first | refine ngo ?_ | refine VB.tt ?_ | refine VB.ff ?_ | refine dgo ?_ | refine sgo ?_ | fail)
  conv => whnf
  refine VNew.dat (cs' := limbs a) rfl ?_ ?_
  · rw [Nat.mul_one, Nat.zero_add, List.drop_zero]; exact List.take_of_length_le (by simp [limbs])
  repeat' ((conv => whnf); first | refine ngo ?_ | refine VB.tt ?_ | refine VB.ff ?_ | refine dgo ?_ | refine sgo ?_ | fail)
  conv => whnf
  refine VNew.keep ?_
  repeat' ((conv => whnf); first | refine ngo ?_ | refine VB.tt ?_ | refine VB.ff ?_ | refine dgo ?_ | refine sgo ?_ | fail)
  conv => whnf
  refine VNew.dat (cs' := limbs b) rfl ?_ ?_
  · rw [Nat.mul_one, Nat.zero_add, List.drop_zero]; exact List.take_of_length_le (by simp [limbs])
  rw [Nat.zero_add, Nat.zero_add]
  repeat' ((conv => whnf); first | refine ngo ?_ | refine VB.tt ?_ | refine VB.ff ?_ | refine VNew.keep ?_ | refine dgo ?_ | refine sgo ?_ | fail)
  conv => whnf
  obtain ⟨q, r, e, hR, lq, lr⟩ := divR_ex a b (by omega)
  have hn := ndiv_c a b (by omega) (by omega)
  have hr := rdiv_c a b (by omega) (by omega)
  rw [hR] at hn hr
  rw [Nat.zero_add]
  show VCall EE _ [natL a, natL b] [.gone, .gone] _
  refine VCall.i (hn) ?_
  repeat' ((conv => whnf); first | refine ngo ?_ | refine VB.tt ?_ | refine VB.ff ?_ | refine VNew.keep ?_ | refine dgo ?_ | refine sgo ?_ | fail)
  conv => whnf
  refine VCall.i (hr) ?_
  repeat' ((conv => whnf); first | refine ngo ?_ | refine VB.tt ?_ | refine VB.ff ?_ | refine VNew.keep ?_ | refine dgo ?_ | refine sgo ?_ | fail)
  conv => whnf
  refine VCall.s (alike_same (dg q) (by omega)) ?_
  repeat' ((conv => whnf); first | refine ngo ?_ | refine VB.tt ?_ | refine VB.ff ?_ | refine VNew.keep ?_ | refine dgo ?_ | refine sgo ?_ | fail)
  conv => whnf
  refine VCall.s (alike_same (dg r) (by omega)) ?_
  repeat' ((conv => whnf); first | refine ngo ?_ | refine VB.tt ?_ | refine VB.ff ?_ | refine VNew.keep ?_ | refine dgo ?_ | refine sgo ?_ | fail)
  conv => whnf
  refine VB.ne (fun h => absurd rfl h) (fun h => ?_)
  repeat' ((conv => whnf); first | refine ngo ?_ | refine VB.tt ?_ | refine VB.ff ?_ | refine VNew.keep ?_ | refine dgo ?_ | refine sgo ?_ | fail)
  conv => whnf
  obtain ⟨g, hg, lg⟩ := res2_ex a b (Nat.gcd (val a) (val b)) (fun h => gcd_len (chk_zero (both2_zero h).1).1 (chk_zero (both2_zero h).2).1 (chk_zero (both2_zero h).1).2 (chk_zero (both2_zero h).2).2)
  have hn := ngcd_c a b (by omega) (by omega)
  have hr := rgcd_c a b (by omega) (by omega)
  rw [hg] at hn hr
  refine VCall.i (hn) ?_
  repeat' ((conv => whnf); first | refine ngo ?_ | refine VB.tt ?_ | refine VB.ff ?_ | refine VNew.keep ?_ | refine dgo ?_ | refine sgo ?_ | fail)
  conv => whnf
  refine VCall.i (hr) ?_
  repeat' ((conv => whnf); first | refine ngo ?_ | refine VB.tt ?_ | refine VB.ff ?_ | refine VNew.keep ?_ | refine dgo ?_ | refine sgo ?_ | fail)
  conv => whnf
  refine VCall.s (alike_same (dg g) (by omega)) ?_
  repeat' ((conv => whnf); first | refine ngo ?_ | refine VB.tt ?_ | refine VB.ff ?_ | refine VNew.keep ?_ | refine dgo ?_ | refine sgo ?_ | fail)
  conv => whnf
  refine VB.ne (fun h => absurd rfl h) (fun h => ?_)
  repeat' ((conv => whnf); first | refine ngo ?_ | refine VB.tt ?_ | refine VB.ff ?_ | refine VNew.keep ?_ | refine dgo ?_ | refine sgo ?_ | fail)
  conv => whnf
  obtain ⟨g, hg, lg⟩ := res2_ex a b (lcmN (val a) (val b)) (fun h => lcmN_len _ _)
  have hn := nlcm_c a b (by omega) (by omega)
  have hr := rlcm_c a b (by omega) (by omega)
  rw [hg] at hn hr
  refine VCall.i (hn) ?_
  repeat' ((conv => whnf); first | refine ngo ?_ | refine VB.tt ?_ | refine VB.ff ?_ | refine VNew.keep ?_ | refine dgo ?_ | refine sgo ?_ | fail)
  conv => whnf
  refine VCall.i (hr) ?_
  repeat' ((conv => whnf); first | refine ngo ?_ | refine VB.tt ?_ | refine VB.ff ?_ | refine VNew.keep ?_ | refine dgo ?_ | refine sgo ?_ | fail)
  conv => whnf
  refine VCall.s (alike_same (dg g) (by omega)) ?_
  repeat' ((conv => whnf); first | refine ngo ?_ | refine VB.tt ?_ | refine VB.ff ?_ | refine VNew.keep ?_ | refine dgo ?_ | refine sgo ?_ | fail)
  conv => whnf
  rw [beq_self_eq_true]
  repeat' ((conv => whnf); first | refine ngo ?_ | refine VB.tt ?_ | refine VB.ff ?_ | refine VNew.keep ?_ | refine dgo ?_ | refine sgo ?_ | fail)
  conv => whnf
  refine VCall.s (alike_same a (by omega)) ?_
  repeat' ((conv => whnf); first | refine ngo ?_ | refine VB.tt ?_ | refine VB.ff ?_ | refine VNew.keep ?_ | refine dgo ?_ | refine sgo ?_ | fail)
  conv => whnf
  refine VCall.s (alike_same b (by omega)) ?_
  repeat' ((conv => whnf); first | refine ngo ?_ | refine VB.tt ?_ | refine VB.ff ?_ | refine VNew.keep ?_ | refine dgo ?_ | refine sgo ?_ | fail)
  conv => whnf
  refine VCall.s (awake_c) ?_
  repeat' ((conv => whnf); first | refine ngo ?_ | refine VB.tt ?_ | refine VB.ff ?_ | refine VNew.keep ?_ | refine dgo ?_ | refine sgo ?_ | fail)
  conv => whnf
end Go.Proofs.Ytcdnonggajoghaa
