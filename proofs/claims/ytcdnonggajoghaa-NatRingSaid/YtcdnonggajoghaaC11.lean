/- Contracts: the document's calls for quotients, divisors and multiples. -/
import Derived.Test.YtcdnonggajoghaaC10
namespace Go.Proofs.Ytcdnonggajoghaa
open Go Go.RowKit
set_option linter.unusedVariables false
set_option linter.unusedSimpArgs false
set_option maxRecDepth 100000

theorem over_n {a b : Nat} (hb : b ≠ 0) (la : (dg a).length < 8000000) (lb : (dg b).length < 8000000) : VCall EE 34 [natv a, natv b] [] fun v H => Fz H 0 [] v (.tup [natv (a / b), natv (a % b)]) := by
  have := over_c (canon_dg a) (canon_dg b) (fun h => hb (dg_eq_nil.1 h)) la lb
  rwa [val_dg, val_dg] at this

theorem dg_len_zero {n : Nat} (h : (dg n).length = 0) : n = 0 := dg_eq_nil.1 (List.length_eq_zero_iff.1 h)

theorem rcommon_n {a b : Nat} (la : (dg a).length < 8000000) (lb : (dg b).length < 8000000) : VCall EE 39 [natv a, natv b] [] fun v H => v = natv (Nat.gcd a b) := by
  refine VCall.of_body true Try.func39 rfl (by decide) rfl ?_
  repeat' ((conv => whnf); first | refine ngo ?_ | refine VB.tt ?_ | refine VB.ff ?_ | refine VNew.keep ?_ | refine dgo ?_ | refine sgo ?_ | fail)
  conv => whnf
  refine VLoop.ix true (fun x : Nat × Nat => ⟨[(0, natv x.1), (1, natv x.2)], [], []⟩) (fun x => Nat.gcd x.1 x.2 = Nat.gcd a b ∧ (dg x.1).length < 8000000 ∧ (dg x.2).length < 8000000) (fun x => x.2) (a, b) ⟨rfl, la, lb⟩ ⟨⟨rfl, rfl, trivial⟩, rfl, rfl⟩ ?_
  rintro ⟨x, y⟩ ⟨hg, lx, ly⟩
  dsimp only at hg lx ly ⊢
  repeat' ((conv => whnf); first | refine ngo ?_ | refine VB.tt ?_ | refine VB.ff ?_ | refine VNew.keep ?_ | refine dgo ?_ | refine sgo ?_ | fail)
  conv => whnf
  refine VB.dec (fun h => ?_) (fun h => ?_)
  · have hy : y ≠ 0 := by rintro rfl; rw [dg_zero] at h; exact absurd h (by decide)
    repeat' ((conv => whnf); first | refine ngo ?_ | refine VB.tt ?_ | refine VB.ff ?_ | refine VNew.keep ?_ | refine dgo ?_ | refine sgo ?_ | fail)
    conv => whnf
    refine VCall.i (over_n hy lx ly) ?_
    repeat' ((conv => whnf); first | refine ngo ?_ | refine VB.tt ?_ | refine VB.ff ?_ | refine VNew.keep ?_ | refine dgo ?_ | refine sgo ?_ | fail)
    conv => whnf
    refine ⟨(y, x % y), ⟨?_, ly, ?_⟩, Nat.mod_lt _ (by omega), ⟨⟨rfl, rfl, trivial⟩, rfl, rfl⟩⟩
    · dsimp only; rw [← hg, Nat.gcd_comm y, ← Nat.gcd_rec, Nat.gcd_comm]
    · dsimp only; exact Nat.lt_of_le_of_lt (dg_length_mono (Nat.le_of_lt (Nat.mod_lt _ (by omega)))) ly
  · have hy : y = 0 := dg_len_zero (by omega)
    subst hy
    rw [Nat.gcd_zero_right] at hg
    subst hg
    repeat' ((conv => whnf); first | refine ngo ?_ | refine VB.tt ?_ | refine VB.ff ?_ | refine VNew.keep ?_ | refine dgo ?_ | refine sgo ?_ | fail)
    conv => whnf
    rfl

/-- What a quotient and a remainder are, or which error. -/
def divR (a b : List Nat) : AV := if both2 a b = 0 then (if val b = 0 then .tup [natv 0, natv 0, .int .i64 6] else .tup [natv (val a / val b), natv (val a % val b), .int .i64 0]) else .tup [natv 0, natv 0, .int .i64 (both2 a b)]

theorem val_zero_nil {b : List Nat} (hb : canon b) : val b = 0 ↔ b = [] := by
  constructor
  · intro h; rw [← dg_val hb, h, dg_zero]
  · rintro rfl; rfl

theorem ndiv_c (a b : List Nat) (la : a.length < 1000000000000000000) (lb : b.length < 1000000000000000000) : VCall EE 9 [natL a, natL b] [] fun v H => Fz H 0 [] v (divR a b) := by
  refine VCall.of_body true Try.func9 rfl (by decide) rfl ?_
  repeat' ((conv => whnf); first | refine ngo ?_ | refine VB.tt ?_ | refine VB.ff ?_ | refine dgo ?_ | refine sgo ?_ | fail)
  conv => whnf
  refine VNew.dat (cs' := [natL a, natL b]) rfl rfl ?_
  repeat' ((conv => whnf); first | refine ngo ?_ | refine VB.tt ?_ | refine VB.ff ?_ | refine VNew.keep ?_ | refine dgo ?_ | refine sgo ?_ | fail)
  conv => whnf
  refine VCall.s (checked_c a b la lb) ?_
  repeat' ((conv => whnf); first | refine ngo ?_ | refine VB.tt ?_ | refine VB.ff ?_ | refine VNew.keep ?_ | refine dgo ?_ | refine sgo ?_ | fail)
  conv => whnf
  refine VB.ne (fun h => ?_) (fun h => ?_)
  · repeat' ((conv => whnf); first | refine ngo ?_ | refine VB.tt ?_ | refine VB.ff ?_ | refine VNew.keep ?_ | refine dgo ?_ | refine sgo ?_ | fail)
    conv => whnf
    rw [divR, if_neg h]
    repeat' (first | exact fz_nil0 | exact Fz.nsl | exact Fz.same rfl (by repeat' (first | exact trivial | exact low_natL 0 _ | exact low_limbs 0 _ | refine And.intro ?_ ?_ | fail)) | refine Fz.tup ?_ | refine FzL.cons ?_ ?_ | exact FzL.nil | fail)
  · obtain ⟨h1, h2⟩ := both2_zero h
    obtain ⟨ca, la⟩ := chk_zero h1
    obtain ⟨cb, lb⟩ := chk_zero h2
    repeat' ((conv => whnf); first | refine ngo ?_ | refine VB.tt ?_ | refine VB.ff ?_ | refine VNew.keep ?_ | refine dgo ?_ | refine sgo ?_ | fail)
    conv => whnf
    refine VB.eq (fun h3 => ?_) (fun h3 => ?_)
    · have h4 : b = [] := List.length_eq_zero_iff.1 (by omega)
      repeat' ((conv => whnf); first | refine ngo ?_ | refine VB.tt ?_ | refine VB.ff ?_ | refine VNew.keep ?_ | refine dgo ?_ | refine sgo ?_ | fail)
      conv => whnf
      rw [divR, if_pos h, if_pos ((val_zero_nil cb).2 h4)]
      repeat' (first | exact fz_nil0 | exact Fz.nsl | exact Fz.same rfl (by repeat' (first | exact trivial | exact low_natL 0 _ | exact low_limbs 0 _ | refine And.intro ?_ ?_ | fail)) | refine Fz.tup ?_ | refine FzL.cons ?_ ?_ | exact FzL.nil | fail)
    · have h4 : b ≠ [] := fun e => h3 (by rw [e]; rfl)
      repeat' ((conv => whnf); first | refine ngo ?_ | refine VB.tt ?_ | refine VB.ff ?_ | refine VNew.keep ?_ | refine dgo ?_ | refine sgo ?_ | fail)
      conv => whnf
      refine VCall.i (divide_c ca cb h4 (by omega) (by omega)) ?_
      repeat' ((conv => whnf); first | refine ngo ?_ | refine VB.tt ?_ | refine VB.ff ?_ | refine VNew.keep ?_ | refine dgo ?_ | refine sgo ?_ | fail)
      conv => whnf
      rw [divR, if_pos h, if_neg (fun e => h4 ((val_zero_nil cb).1 e))]
      repeat' (first | exact fz_nil0 | exact Fz.nsl | exact Fz.same rfl (by repeat' (first | exact trivial | exact low_natL 0 _ | exact low_limbs 0 _ | refine And.intro ?_ ?_ | fail)) | refine Fz.tup ?_ | refine FzL.cons ?_ ?_ | exact FzL.nil | fail)

theorem rdiv_c (a b : List Nat) (la : a.length < 1000000000000000000) (lb : b.length < 1000000000000000000) : VCall EE 10 [natL a, natL b] [] fun v H => Fz H 0 [] v (divR a b) := by
  refine VCall.of_body true Try.func10 rfl (by decide) rfl ?_
  repeat' ((conv => whnf); first | refine ngo ?_ | refine VB.tt ?_ | refine VB.ff ?_ | refine VNew.keep ?_ | refine dgo ?_ | refine sgo ?_ | fail)
  conv => whnf
  refine VCall.s (rboth_c a b la lb) ?_
  repeat' ((conv => whnf); first | refine ngo ?_ | refine VB.tt ?_ | refine VB.ff ?_ | refine VNew.keep ?_ | refine dgo ?_ | refine sgo ?_ | fail)
  conv => whnf
  refine VB.ne (fun h => ?_) (fun h => ?_)
  · repeat' ((conv => whnf); first | refine ngo ?_ | refine VB.tt ?_ | refine VB.ff ?_ | refine VNew.keep ?_ | refine dgo ?_ | refine sgo ?_ | fail)
    conv => whnf
    rw [divR, if_neg h]
    repeat' (first | exact fz_nil0 | exact Fz.nsl | exact Fz.same rfl (by repeat' (first | exact trivial | exact low_natL 0 _ | exact low_limbs 0 _ | refine And.intro ?_ ?_ | fail)) | refine Fz.tup ?_ | refine FzL.cons ?_ ?_ | exact FzL.nil | fail)
  · obtain ⟨h1, h2⟩ := both2_zero h
    obtain ⟨ca, la⟩ := chk_zero h1
    obtain ⟨cb, lb⟩ := chk_zero h2
    repeat' ((conv => whnf); first | refine ngo ?_ | refine VB.tt ?_ | refine VB.ff ?_ | refine VNew.keep ?_ | refine dgo ?_ | refine sgo ?_ | fail)
    conv => whnf
    refine VB.eq (fun h3 => ?_) (fun h3 => ?_)
    · have h4 : b = [] := List.length_eq_zero_iff.1 (by omega)
      repeat' ((conv => whnf); first | refine ngo ?_ | refine VB.tt ?_ | refine VB.ff ?_ | refine VNew.keep ?_ | refine dgo ?_ | refine sgo ?_ | fail)
      conv => whnf
      rw [divR, if_pos h, if_pos ((val_zero_nil cb).2 h4)]
      repeat' (first | exact fz_nil0 | exact Fz.nsl | exact Fz.same rfl (by repeat' (first | exact trivial | exact low_natL 0 _ | exact low_limbs 0 _ | refine And.intro ?_ ?_ | fail)) | refine Fz.tup ?_ | refine FzL.cons ?_ ?_ | exact FzL.nil | fail)
    · have h4 : b ≠ [] := fun e => h3 (by rw [e]; rfl)
      have h5 : (dg (val a % val b)).length < 10000000 := by
        have := dg_length_mono (Nat.mod_le (val a) (val b))
        rw [dg_val ca] at this
        omega
      repeat' ((conv => whnf); first | refine ngo ?_ | refine VB.tt ?_ | refine VB.ff ?_ | refine VNew.keep ?_ | refine dgo ?_ | refine sgo ?_ | fail)
      conv => whnf
      refine VCall.i (over_c ca cb h4 (by omega) (by omega)) ?_
      repeat' ((conv => whnf); first | refine ngo ?_ | refine VB.tt ?_ | refine VB.ff ?_ | refine VNew.keep ?_ | refine dgo ?_ | refine sgo ?_ | fail)
      conv => whnf
      rw [divR, if_pos h, if_neg (fun e => h4 ((val_zero_nil cb).1 e))]
      refine .tup (.cons (.same rfl (low_natL 0 _)) (.cons ?_ (.cons (.same rfl trivial) .nil)))
      exact .nat (Nat.zero_le _) (by simp) rfl (by rw [Nat.mul_one, Nat.zero_add]; exact List.take_of_length_le (by simp [limbs])) (by simp)

theorem canon_natL {a : List Nat} (h : canon a) : natL a = natv (val a) := natv_of h

theorem ngcd1_c {a b : List Nat} (ca : canon a) (cb : canon b) (la : a.length ≤ 1024) (lb : b.length ≤ 1024) : VCall EE 36 [natL a, natL b] [] fun v H => Fz H 0 [] v (.tup [natv (Nat.gcd (val a) (val b)), .int .i64 0]) := by
  refine VCall.of_body true Try.func36 rfl (by decide) rfl ?_
  have hc := common_n (a := val a) (b := val b) (by rw [dg_val ca]; omega) (by rw [dg_val cb]; omega)
  rw [← canon_natL ca, ← canon_natL cb] at hc
  repeat' ((conv => whnf); first | refine ngo ?_ | refine VB.tt ?_ | refine VB.ff ?_ | refine VNew.keep ?_ | refine dgo ?_ | refine sgo ?_ | fail)
  conv => whnf
  refine VCall.i (hc) ?_
  repeat' ((conv => whnf); first | refine ngo ?_ | refine VB.tt ?_ | refine VB.ff ?_ | refine VNew.keep ?_ | refine dgo ?_ | refine sgo ?_ | fail)
  conv => whnf
  repeat' (first | exact fz_nil0 | exact Fz.nsl | exact Fz.same rfl (by repeat' (first | exact trivial | exact low_natL 0 _ | exact low_limbs 0 _ | refine And.intro ?_ ?_ | fail)) | refine Fz.tup ?_ | refine FzL.cons ?_ ?_ | exact FzL.nil | fail)

theorem ngcd_c (a b : List Nat) (la : a.length < 1000000000000000000) (lb : b.length < 1000000000000000000) : VCall EE 12 [natL a, natL b] [] fun v H => Fz H 0 [] v (res2 a b (Nat.gcd (val a) (val b)) 0) := by
  refine VCall.of_body true Try.func12 rfl (by decide) rfl ?_
  repeat' ((conv => whnf); first | refine ngo ?_ | refine VB.tt ?_ | refine VB.ff ?_ | refine VNew.keep ?_ | refine dgo ?_ | refine sgo ?_ | fail)
  conv => whnf
  refine VCall.i (with_c la lb (fun h => ngcd1_c (chk_zero (both2_zero h).1).1 (chk_zero (both2_zero h).2).1 (chk_zero (both2_zero h).1).2 (chk_zero (both2_zero h).2).2)) ?_
  repeat' ((conv => whnf); first | refine ngo ?_ | refine VB.tt ?_ | refine VB.ff ?_ | refine VNew.keep ?_ | refine dgo ?_ | refine sgo ?_ | fail)
  conv => whnf
  repeat' (first | exact fz_nil0 | exact Fz.nsl | exact Fz.same rfl (by repeat' (first | exact trivial | exact low_natL 0 _ | exact low_limbs 0 _ | refine And.intro ?_ ?_ | fail)) | refine Fz.tup ?_ | refine FzL.cons ?_ ?_ | exact FzL.nil | fail)

theorem gcd_len {a b : List Nat} (ca : canon a) (cb : canon b) (la : a.length ≤ 1024) (lb : b.length ≤ 1024) : (dg (Nat.gcd (val a) (val b))).length ≤ 1024 := by
  rcases Nat.eq_zero_or_pos (val a) with h | h
  · rw [h, Nat.gcd_zero_left, dg_val cb]; exact lb
  · have := dg_length_mono (Nat.gcd_le_left (val b) h)
    rw [dg_val ca] at this
    omega

theorem rgcd_c (a b : List Nat) (la : a.length < 1000000000000000000) (lb : b.length < 1000000000000000000) : VCall EE 13 [natL a, natL b] [] fun v H => Fz H 0 [] v (res2 a b (Nat.gcd (val a) (val b)) 0) := by
  refine VCall.of_body true Try.func13 rfl (by decide) rfl ?_
  repeat' ((conv => whnf); first | refine ngo ?_ | refine VB.tt ?_ | refine VB.ff ?_ | refine VNew.keep ?_ | refine dgo ?_ | refine sgo ?_ | fail)
  conv => whnf
  refine VCall.s (rboth_c a b la lb) ?_
  repeat' ((conv => whnf); first | refine ngo ?_ | refine VB.tt ?_ | refine VB.ff ?_ | refine VNew.keep ?_ | refine dgo ?_ | refine sgo ?_ | fail)
  conv => whnf
  refine VB.ne (fun h => ?_) (fun h => ?_)
  · repeat' ((conv => whnf); first | refine ngo ?_ | refine VB.tt ?_ | refine VB.ff ?_ | refine VNew.keep ?_ | refine dgo ?_ | refine sgo ?_ | fail)
    conv => whnf
    rw [res2, if_neg h, if_neg h]
    repeat' (first | exact fz_nil0 | exact Fz.nsl | exact Fz.same rfl (by repeat' (first | exact trivial | exact low_natL 0 _ | exact low_limbs 0 _ | refine And.intro ?_ ?_ | fail)) | refine Fz.tup ?_ | refine FzL.cons ?_ ?_ | exact FzL.nil | fail)
  · obtain ⟨h1, h2⟩ := both2_zero h
    obtain ⟨ca, la⟩ := chk_zero h1
    obtain ⟨cb, lb⟩ := chk_zero h2
    have hc := rcommon_n (a := val a) (b := val b) (by rw [dg_val ca]; omega) (by rw [dg_val cb]; omega)
    rw [← canon_natL ca, ← canon_natL cb] at hc
    have hl := gcd_len ca cb la lb
    have hf := rfits_c (n := Nat.gcd (val a) (val b)) (by omega)
    rw [if_neg (by omega), if_neg (by omega)] at hf
    repeat' ((conv => whnf); first | refine ngo ?_ | refine VB.tt ?_ | refine VB.ff ?_ | refine VNew.keep ?_ | refine dgo ?_ | refine sgo ?_ | fail)
    conv => whnf
    refine VCall.s (hc) ?_
    repeat' ((conv => whnf); first | refine ngo ?_ | refine VB.tt ?_ | refine VB.ff ?_ | refine VNew.keep ?_ | refine dgo ?_ | refine sgo ?_ | fail)
    conv => whnf
    refine VCall.i (hf) ?_
    repeat' ((conv => whnf); first | refine ngo ?_ | refine VB.tt ?_ | refine VB.ff ?_ | refine VNew.keep ?_ | refine dgo ?_ | refine sgo ?_ | fail)
    conv => whnf
    rw [res2, if_pos h, if_pos h]
    repeat' (first | exact fz_nil0 | exact Fz.nsl | exact Fz.same rfl (by repeat' (first | exact trivial | exact low_natL 0 _ | exact low_limbs 0 _ | refine And.intro ?_ ?_ | fail)) | refine Fz.tup ?_ | refine FzL.cons ?_ ?_ | exact FzL.nil | fail)

/-- The least common multiple: the number, and which error. -/
def lcmN (a b : Nat) : Nat := if 1024 < (dg (Nat.lcm a b)).length then 0 else Nat.lcm a b
def lcmE (a b : Nat) : Int := if 1024 < (dg (Nat.lcm a b)).length then 5 else 0
theorem lcm_alt {a b : Nat} : Nat.lcm a b = a / Nat.gcd a b * b := by
  rw [Nat.lcm, Nat.div_mul_right_comm (Nat.gcd_dvd_left a b)]

theorem lcm_len {a b : List Nat} (ca : canon a) (cb : canon b) (la : a.length ≤ 1024) (lb : b.length ≤ 1024) : (dg (Nat.lcm (val a) (val b))).length ≤ 2048 := by
  have h1 := dg_length_mono (Nat.mul_le_mul_right (val b) (Nat.div_le_self (val a) (Nat.gcd (val a) (val b))))
  have h2 := dg_mul_le (val a) (val b)
  rw [dg_val ca, dg_val cb] at h2
  rw [lcm_alt]
  omega

theorem nlcm1_c {a b : List Nat} (ca : canon a) (cb : canon b) (la : a.length ≤ 1024) (lb : b.length ≤ 1024) : VCall EE 40 [natL a, natL b] [] fun v H => Fz H 0 [] v (.tup [natv (lcmN (val a) (val b)), .int .i64 (lcmE (val a) (val b))]) := by
  refine VCall.of_body true Try.func40 rfl (by decide) rfl ?_
  repeat' ((conv => whnf); first | refine ngo ?_ | refine VB.tt ?_ | refine VB.ff ?_ | refine VNew.keep ?_ | refine dgo ?_ | refine sgo ?_ | fail)
  conv => whnf
  by_cases h1 : a = []
  · subst h1
    repeat' ((conv => whnf); first | refine ngo ?_ | refine VB.tt ?_ | refine VB.ff ?_ | refine VNew.keep ?_ | refine dgo ?_ | refine sgo ?_ | fail)
    conv => whnf
    rw [lcmN, lcmE, show val ([] : List Nat) = 0 from rfl, Nat.lcm_zero_left, dg_zero, if_neg (by decide), if_neg (by decide)]
    repeat' (first | exact fz_nil0 | exact Fz.nsl | exact Fz.same rfl (by repeat' (first | exact trivial | exact low_natL 0 _ | exact low_limbs 0 _ | refine And.intro ?_ ?_ | fail)) | refine Fz.tup ?_ | refine FzL.cons ?_ ?_ | exact FzL.nil | fail)
  · have h1' : a.length ≠ 0 := fun e => h1 (List.length_eq_zero_iff.1 e)
    have ha0 : val a ≠ 0 := fun e => h1 ((val_zero_nil ca).1 e)
    rw [show ((a.length : Int) == 0) = false by simpa using h1']
    repeat' ((conv => whnf); first | refine ngo ?_ | refine VB.tt ?_ | refine VB.ff ?_ | refine VNew.keep ?_ | refine dgo ?_ | refine sgo ?_ | fail)
    conv => whnf
    refine VB.eq (fun h2 => ?_) (fun h2 => ?_)
    · have h2 : b = [] := List.length_eq_zero_iff.1 (by omega)
      subst h2
      repeat' ((conv => whnf); first | refine ngo ?_ | refine VB.tt ?_ | refine VB.ff ?_ | refine VNew.keep ?_ | refine dgo ?_ | refine sgo ?_ | fail)
      conv => whnf
      rw [lcmN, lcmE, show val ([] : List Nat) = 0 from rfl, Nat.lcm_zero_right, dg_zero, if_neg (by decide), if_neg (by decide)]
      repeat' (first | exact fz_nil0 | exact Fz.nsl | exact Fz.same rfl (by repeat' (first | exact trivial | exact low_natL 0 _ | exact low_limbs 0 _ | refine And.intro ?_ ?_ | fail)) | refine Fz.tup ?_ | refine FzL.cons ?_ ?_ | exact FzL.nil | fail)
    · have hc := common_n (a := val a) (b := val b) (by rw [dg_val ca]; omega) (by rw [dg_val cb]; omega)
      rw [← canon_natL ca, ← canon_natL cb] at hc
      have hl := gcd_len ca cb la lb
      have hll := lcm_len ca cb la lb
      have hf := fits_c (n := Nat.lcm (val a) (val b)) (by omega)
      have hql : (dg (val a / Nat.gcd (val a) (val b))).length ≤ 1024 := by
        have := dg_length_mono (Nat.div_le_self (val a) (Nat.gcd (val a) (val b)))
        rw [dg_val ca] at this
        omega
      rw [lcm_alt] at hf
      have hpr := product_n (a := val a / Nat.gcd (val a) (val b)) (b := val b) (by omega) (by rw [dg_val cb]; omega)
      rw [← canon_natL cb] at hpr
      have hdv := divide_n (a := val a) (b := Nat.gcd (val a) (val b)) (fun e => ha0 (Nat.gcd_eq_zero_iff.1 e).1) (by rw [dg_val ca]; omega) (by omega)
      rw [← canon_natL ca] at hdv
      repeat' ((conv => whnf); first | refine ngo ?_ | refine VB.tt ?_ | refine VB.ff ?_ | refine VNew.keep ?_ | refine dgo ?_ | refine sgo ?_ | fail)
      conv => whnf
      refine VCall.i (hc) ?_
      repeat' ((conv => whnf); first | refine ngo ?_ | refine VB.tt ?_ | refine VB.ff ?_ | refine VNew.keep ?_ | refine dgo ?_ | refine sgo ?_ | fail)
      conv => whnf
      refine VCall.i (hdv) ?_
      repeat' ((conv => whnf); first | refine ngo ?_ | refine VB.tt ?_ | refine VB.ff ?_ | refine VNew.keep ?_ | refine dgo ?_ | refine sgo ?_ | fail)
      conv => whnf
      refine VCall.i (hpr) ?_
      repeat' ((conv => whnf); first | refine ngo ?_ | refine VB.tt ?_ | refine VB.ff ?_ | refine VNew.keep ?_ | refine dgo ?_ | refine sgo ?_ | fail)
      conv => whnf
      refine VCall.i (hf) ?_
      repeat' ((conv => whnf); first | refine ngo ?_ | refine VB.tt ?_ | refine VB.ff ?_ | refine VNew.keep ?_ | refine dgo ?_ | refine sgo ?_ | fail)
      conv => whnf
      rw [lcmN, lcmE, lcm_alt]
      repeat' (first | exact fz_nil0 | exact Fz.nsl | exact Fz.same rfl (by repeat' (first | exact trivial | exact low_natL 0 _ | exact low_limbs 0 _ | refine And.intro ?_ ?_ | fail)) | refine Fz.tup ?_ | refine FzL.cons ?_ ?_ | exact FzL.nil | fail)

theorem nlcm_c (a b : List Nat) (la : a.length < 1000000000000000000) (lb : b.length < 1000000000000000000) : VCall EE 14 [natL a, natL b] [] fun v H => Fz H 0 [] v (res2 a b (lcmN (val a) (val b)) (lcmE (val a) (val b))) := by
  refine VCall.of_body true Try.func14 rfl (by decide) rfl ?_
  repeat' ((conv => whnf); first | refine ngo ?_ | refine VB.tt ?_ | refine VB.ff ?_ | refine VNew.keep ?_ | refine dgo ?_ | refine sgo ?_ | fail)
  conv => whnf
  refine VCall.i (with_c la lb (fun h => nlcm1_c (chk_zero (both2_zero h).1).1 (chk_zero (both2_zero h).2).1 (chk_zero (both2_zero h).1).2 (chk_zero (both2_zero h).2).2)) ?_
  repeat' ((conv => whnf); first | refine ngo ?_ | refine VB.tt ?_ | refine VB.ff ?_ | refine VNew.keep ?_ | refine dgo ?_ | refine sgo ?_ | fail)
  conv => whnf
  repeat' (first | exact fz_nil0 | exact Fz.nsl | exact Fz.same rfl (by repeat' (first | exact trivial | exact low_natL 0 _ | exact low_limbs 0 _ | refine And.intro ?_ ?_ | fail)) | refine Fz.tup ?_ | refine FzL.cons ?_ ?_ | exact FzL.nil | fail)

theorem rlcm_c (a b : List Nat) (la : a.length < 1000000000000000000) (lb : b.length < 1000000000000000000) : VCall EE 15 [natL a, natL b] [] fun v H => Fz H 0 [] v (res2 a b (lcmN (val a) (val b)) (lcmE (val a) (val b))) := by
  refine VCall.of_body true Try.func15 rfl (by decide) rfl ?_
  repeat' ((conv => whnf); first | refine ngo ?_ | refine VB.tt ?_ | refine VB.ff ?_ | refine VNew.keep ?_ | refine dgo ?_ | refine sgo ?_ | fail)
  conv => whnf
  refine VCall.s (rboth_c a b la lb) ?_
  repeat' ((conv => whnf); first | refine ngo ?_ | refine VB.tt ?_ | refine VB.ff ?_ | refine VNew.keep ?_ | refine dgo ?_ | refine sgo ?_ | fail)
  conv => whnf
  refine VB.ne (fun h => ?_) (fun h => ?_)
  · repeat' ((conv => whnf); first | refine ngo ?_ | refine VB.tt ?_ | refine VB.ff ?_ | refine VNew.keep ?_ | refine dgo ?_ | refine sgo ?_ | fail)
    conv => whnf
    rw [res2, if_neg h, if_neg h]
    repeat' (first | exact fz_nil0 | exact Fz.nsl | exact Fz.same rfl (by repeat' (first | exact trivial | exact low_natL 0 _ | exact low_limbs 0 _ | refine And.intro ?_ ?_ | fail)) | refine Fz.tup ?_ | refine FzL.cons ?_ ?_ | exact FzL.nil | fail)
  · obtain ⟨h1, h2⟩ := both2_zero h
    obtain ⟨ca, la⟩ := chk_zero h1
    obtain ⟨cb, lb⟩ := chk_zero h2
    rw [res2, if_pos h, if_pos h]
    repeat' ((conv => whnf); first | refine ngo ?_ | refine VB.tt ?_ | refine VB.ff ?_ | refine VNew.keep ?_ | refine dgo ?_ | refine sgo ?_ | fail)
    conv => whnf
    by_cases h1 : a = []
    · subst h1
      repeat' ((conv => whnf); first | refine ngo ?_ | refine VB.tt ?_ | refine VB.ff ?_ | refine VNew.keep ?_ | refine dgo ?_ | refine sgo ?_ | fail)
      conv => whnf
      rw [lcmN, lcmE, show val ([] : List Nat) = 0 from rfl, Nat.lcm_zero_left, dg_zero, if_neg (by decide), if_neg (by decide)]
      repeat' (first | exact fz_nil0 | exact Fz.nsl | exact Fz.same rfl (by repeat' (first | exact trivial | exact low_natL 0 _ | exact low_limbs 0 _ | refine And.intro ?_ ?_ | fail)) | refine Fz.tup ?_ | refine FzL.cons ?_ ?_ | exact FzL.nil | fail)
    · have h1' : a.length ≠ 0 := fun e => h1 (List.length_eq_zero_iff.1 e)
      have ha0 : val a ≠ 0 := fun e => h1 ((val_zero_nil ca).1 e)
      rw [show ((a.length : Int) == 0) = false by simpa using h1']
      repeat' ((conv => whnf); first | refine ngo ?_ | refine VB.tt ?_ | refine VB.ff ?_ | refine VNew.keep ?_ | refine dgo ?_ | refine sgo ?_ | fail)
      conv => whnf
      refine VB.eq (fun h2 => ?_) (fun h2 => ?_)
      · have h2 : b = [] := List.length_eq_zero_iff.1 (by omega)
        subst h2
        repeat' ((conv => whnf); first | refine ngo ?_ | refine VB.tt ?_ | refine VB.ff ?_ | refine VNew.keep ?_ | refine dgo ?_ | refine sgo ?_ | fail)
        conv => whnf
        rw [lcmN, lcmE, show val ([] : List Nat) = 0 from rfl, Nat.lcm_zero_right, dg_zero, if_neg (by decide), if_neg (by decide)]
        repeat' (first | exact fz_nil0 | exact Fz.nsl | exact Fz.same rfl (by repeat' (first | exact trivial | exact low_natL 0 _ | exact low_limbs 0 _ | refine And.intro ?_ ?_ | fail)) | refine Fz.tup ?_ | refine FzL.cons ?_ ?_ | exact FzL.nil | fail)
      · have hc := rcommon_n (a := val a) (b := val b) (by rw [dg_val ca]; omega) (by rw [dg_val cb]; omega)
        rw [← canon_natL ca, ← canon_natL cb] at hc
        have hl := gcd_len ca cb la lb
        have hll := lcm_len ca cb la lb
        have hf := rfits_c (n := Nat.lcm (val a) (val b)) (by omega)
        have hql : (dg (val a / Nat.gcd (val a) (val b))).length ≤ 1024 := by
          have := dg_length_mono (Nat.div_le_self (val a) (Nat.gcd (val a) (val b)))
          rw [dg_val ca] at this
          omega
        rw [lcm_alt] at hf
        have hpr := rtimes_n (a := val a / Nat.gcd (val a) (val b)) (b := val b) (by omega) (by rw [dg_val cb]; omega)
        rw [← canon_natL cb] at hpr
        have hdv := over_n (a := val a) (b := Nat.gcd (val a) (val b)) (fun e => ha0 (Nat.gcd_eq_zero_iff.1 e).1) (by rw [dg_val ca]; omega) (by omega)
        rw [← canon_natL ca] at hdv
        repeat' ((conv => whnf); first | refine ngo ?_ | refine VB.tt ?_ | refine VB.ff ?_ | refine VNew.keep ?_ | refine dgo ?_ | refine sgo ?_ | fail)
        conv => whnf
        refine VCall.s (hc) ?_
        repeat' ((conv => whnf); first | refine ngo ?_ | refine VB.tt ?_ | refine VB.ff ?_ | refine VNew.keep ?_ | refine dgo ?_ | refine sgo ?_ | fail)
        conv => whnf
        refine VCall.i (hdv) ?_
        repeat' ((conv => whnf); first | refine ngo ?_ | refine VB.tt ?_ | refine VB.ff ?_ | refine VNew.keep ?_ | refine dgo ?_ | refine sgo ?_ | fail)
        conv => whnf
        refine VCall.i (hpr) ?_
        repeat' ((conv => whnf); first | refine ngo ?_ | refine VB.tt ?_ | refine VB.ff ?_ | refine VNew.keep ?_ | refine dgo ?_ | refine sgo ?_ | fail)
        conv => whnf
        refine VCall.i (hf) ?_
        repeat' ((conv => whnf); first | refine ngo ?_ | refine VB.tt ?_ | refine VB.ff ?_ | refine VNew.keep ?_ | refine dgo ?_ | refine sgo ?_ | fail)
        conv => whnf
        rw [lcmN, lcmE, lcm_alt]
        repeat' (first | exact fz_nil0 | exact Fz.nsl | exact Fz.same rfl (by repeat' (first | exact trivial | exact low_natL 0 _ | exact low_limbs 0 _ | refine And.intro ?_ ?_ | fail)) | refine Fz.tup ?_ | refine FzL.cons ?_ ?_ | exact FzL.nil | fail)
end Go.Proofs.Ytcdnonggajoghaa
