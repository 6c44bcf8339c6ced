/- Contracts: the document's calls for sums, differences and powers. -/
import Derived.Test.YtcdnonggajoghaaC13
namespace Go.Proofs.Ytcdnonggajoghaa
open Go Go.RowKit
set_option linter.unusedVariables false
set_option linter.unusedSimpArgs false
set_option maxRecDepth 100000

theorem dg_add_le (a b : Nat) : (dg (a + b)).length ≤ max (dg a).length (dg b).length + 1 := by
  refine length_dg_lt ?_
  have h1 := lt_of_length_dg a
  have h2 := lt_of_length_dg b
  have h3 : BB ^ (dg a).length ≤ BB ^ max (dg a).length (dg b).length := Nat.pow_le_pow_right (by decide) (Nat.le_max_left _ _)
  have h4 : BB ^ (dg b).length ≤ BB ^ max (dg a).length (dg b).length := Nat.pow_le_pow_right (by decide) (Nat.le_max_right _ _)
  rw [Nat.pow_succ]
  have hBB : BB = 1000000000 := rfl
  have h5 : BB ^ max (dg a).length (dg b).length * 2 ≤ BB ^ max (dg a).length (dg b).length * BB := Nat.mul_le_mul_left _ (by decide)
  omega

def addN (n : Nat) : Nat := if 1024 < (dg n).length then 0 else n
def addE (n : Nat) : Int := if 1024 < (dg n).length then 5 else 0
theorem sum_n {a b : Nat} (la : (dg a).length < 10000000) (lb : (dg b).length < 10000000) : VCall EE 46 [natv a, natv b] [] fun v H => Fz H 0 [] v (natv (a + b)) := by
  have := sum_own (okL_dg a) (okL_dg b) la lb
  rwa [val_dg, val_dg] at this
theorem less_n {a b : Nat} (la : (dg a).length < 10000000) (h : b ≤ a) : VCall EE 49 [natv a, natv b] [] fun v H => Fz H 0 [] v (natv (a - b)) := by
  have := less_own (okL_dg a) (okL_dg b) la (dg_length_mono h) (by rwa [val_dg, val_dg])
  rwa [val_dg, val_dg] at this

theorem nadd1_c {a b : List Nat} (ca : canon a) (cb : canon b) (la : a.length ≤ 1024) (lb : b.length ≤ 1024) : VCall EE 45 [natL a, natL b] [] fun v H => Fz H 0 [] v (.tup [natv (addN (val a + val b)), .int .i64 (addE (val a + val b))]) := by
  refine VCall.of_body true Try.func45 rfl (by decide) rfl ?_
  have hp := sum_own (a := a) (b := b) ca.1 cb.1 (by omega) (by omega)
  have hl := dg_add_le (val a) (val b)
  rw [dg_val ca, dg_val cb] at hl
  repeat' ((conv => whnf); first | refine ngo ?_ | refine VB.tt ?_ | refine VB.ff ?_ | refine VNew.keep ?_ | refine dgo ?_ | refine sgo ?_ | fail)
  conv => whnf
  refine VCall.i (hp) ?_
  repeat' ((conv => whnf); first | refine ngo ?_ | refine VB.tt ?_ | refine VB.ff ?_ | refine VNew.keep ?_ | refine dgo ?_ | refine sgo ?_ | fail)
  conv => whnf
  refine VCall.i (fits_c (by omega)) ?_
  repeat' ((conv => whnf); first | refine ngo ?_ | refine VB.tt ?_ | refine VB.ff ?_ | refine VNew.keep ?_ | refine dgo ?_ | refine sgo ?_ | fail)
  conv => whnf
  rw [addN, addE]
  repeat' (first | exact fz_nil0 | exact Fz.nsl | exact Fz.same rfl (by repeat' (first | exact trivial | exact low_natL 0 _ | exact low_limbs 0 _ | refine And.intro ?_ ?_ | fail)) | refine Fz.tup ?_ | refine FzL.cons ?_ ?_ | exact FzL.nil | fail)

theorem nadd_c (a b : List Nat) (la : a.length < 1000000000000000000) (lb : b.length < 1000000000000000000) : VCall EE 21 [natL a, natL b] [] fun v H => Fz H 0 [] v (res2 a b (addN (val a + val b)) (addE (val a + val b))) := by
  refine VCall.of_body true Try.func21 rfl (by decide) rfl ?_
  repeat' ((conv => whnf); first | refine ngo ?_ | refine VB.tt ?_ | refine VB.ff ?_ | refine VNew.keep ?_ | refine dgo ?_ | refine sgo ?_ | fail)
  conv => whnf
  refine VCall.i (with_c la lb (fun h => nadd1_c (chk_zero (both2_zero h).1).1 (chk_zero (both2_zero h).2).1 (chk_zero (both2_zero h).1).2 (chk_zero (both2_zero h).2).2)) ?_
  repeat' ((conv => whnf); first | refine ngo ?_ | refine VB.tt ?_ | refine VB.ff ?_ | refine VNew.keep ?_ | refine dgo ?_ | refine sgo ?_ | fail)
  conv => whnf
  repeat' (first | exact fz_nil0 | exact Fz.nsl | exact Fz.same rfl (by repeat' (first | exact trivial | exact low_natL 0 _ | exact low_limbs 0 _ | refine And.intro ?_ ?_ | fail)) | refine Fz.tup ?_ | refine FzL.cons ?_ ?_ | exact FzL.nil | fail)

def subE (a b : Nat) : Int := if a < b then 2 else 0
theorem cmpN_neg {a b : Nat} : cmpN a b < 0 ↔ a < b := by
  unfold cmpN
  split
  · simp_all
  · split <;> simp_all

theorem nsub1_c {a b : List Nat} (ca : canon a) (cb : canon b) (la : a.length ≤ 1024) (lb : b.length ≤ 1024) : VCall EE 48 [natL a, natL b] [] fun v H => Fz H 0 [] v (.tup [natv (val a - val b), .int .i64 (subE (val a) (val b))]) := by
  refine VCall.of_body true Try.func48 rfl (by decide) rfl ?_
  repeat' ((conv => whnf); first | refine ngo ?_ | refine VB.tt ?_ | refine VB.ff ?_ | refine VNew.keep ?_ | refine dgo ?_ | refine sgo ?_ | fail)
  conv => whnf
  refine VCall.s (order_c ca cb (by omega) (by omega)) ?_
  repeat' ((conv => whnf); first | refine ngo ?_ | refine VB.tt ?_ | refine VB.ff ?_ | refine VNew.keep ?_ | refine dgo ?_ | refine sgo ?_ | fail)
  conv => whnf
  refine VB.dec (fun h => ?_) (fun h => ?_)
  · have h := cmpN_neg.1 h
    repeat' ((conv => whnf); first | refine ngo ?_ | refine VB.tt ?_ | refine VB.ff ?_ | refine VNew.keep ?_ | refine dgo ?_ | refine sgo ?_ | fail)
    conv => whnf
    rw [subE, if_pos h, Nat.sub_eq_zero_of_le (Nat.le_of_lt h)]
    repeat' (first | exact fz_nil0 | exact Fz.nsl | exact Fz.same rfl (by repeat' (first | exact trivial | exact low_natL 0 _ | exact low_limbs 0 _ | refine And.intro ?_ ?_ | fail)) | refine Fz.tup ?_ | refine FzL.cons ?_ ?_ | exact FzL.nil | fail)
  · have h : ¬ val a < val b := fun hh => h (cmpN_neg.2 hh)
    have hl := dg_length_mono (show val b ≤ val a by omega)
    rw [dg_val ca, dg_val cb] at hl
    repeat' ((conv => whnf); first | refine ngo ?_ | refine VB.tt ?_ | refine VB.ff ?_ | refine VNew.keep ?_ | refine dgo ?_ | refine sgo ?_ | fail)
    conv => whnf
    refine VCall.i (less_own ca.1 cb.1 (by omega) hl (by omega)) ?_
    repeat' ((conv => whnf); first | refine ngo ?_ | refine VB.tt ?_ | refine VB.ff ?_ | refine VNew.keep ?_ | refine dgo ?_ | refine sgo ?_ | fail)
    conv => whnf
    rw [subE, if_neg h]
    repeat' (first | exact fz_nil0 | exact Fz.nsl | exact Fz.same rfl (by repeat' (first | exact trivial | exact low_natL 0 _ | exact low_limbs 0 _ | refine And.intro ?_ ?_ | fail)) | refine Fz.tup ?_ | refine FzL.cons ?_ ?_ | exact FzL.nil | fail)

theorem nsub_c (a b : List Nat) (la : a.length < 1000000000000000000) (lb : b.length < 1000000000000000000) : VCall EE 23 [natL a, natL b] [] fun v H => Fz H 0 [] v (res2 a b (val a - val b) (subE (val a) (val b))) := by
  refine VCall.of_body true Try.func23 rfl (by decide) rfl ?_
  repeat' ((conv => whnf); first | refine ngo ?_ | refine VB.tt ?_ | refine VB.ff ?_ | refine VNew.keep ?_ | refine dgo ?_ | refine sgo ?_ | fail)
  conv => whnf
  refine VCall.i (with_c la lb (fun h => nsub1_c (chk_zero (both2_zero h).1).1 (chk_zero (both2_zero h).2).1 (chk_zero (both2_zero h).1).2 (chk_zero (both2_zero h).2).2)) ?_
  repeat' ((conv => whnf); first | refine ngo ?_ | refine VB.tt ?_ | refine VB.ff ?_ | refine VNew.keep ?_ | refine dgo ?_ | refine sgo ?_ | fail)
  conv => whnf
  repeat' (first | exact fz_nil0 | exact Fz.nsl | exact Fz.same rfl (by repeat' (first | exact trivial | exact low_natL 0 _ | exact low_limbs 0 _ | refine And.intro ?_ ?_ | fail)) | refine Fz.tup ?_ | refine FzL.cons ?_ ?_ | exact FzL.nil | fail)

theorem ncmp_c (a b : List Nat) (la : a.length < 1000000000000000000) (lb : b.length < 1000000000000000000) : VCall EE 17 [natL a, natL b] [] fun v H => v = .tup [.int .i64 (if both2 a b = 0 then cmpN (val a) (val b) else 0), .int .i64 (both2 a b)] := by
  refine VCall.of_body true Try.func17 rfl (by decide) rfl ?_
  repeat' ((conv => whnf); first | refine ngo ?_ | refine VB.tt ?_ | refine VB.ff ?_ | refine dgo ?_ | refine sgo ?_ | fail)
  conv => whnf
  refine VNew.dat (cs' := [natL a, natL b]) rfl rfl ?_
  repeat' ((conv => whnf); first | refine ngo ?_ | refine VB.tt ?_ | refine VB.ff ?_ | refine VNew.keep ?_ | refine dgo ?_ | refine sgo ?_ | fail)
  conv => whnf
  refine VCall.s (checked_c a b la lb) ?_
  repeat' ((conv => whnf); first | refine ngo ?_ | refine VB.tt ?_ | refine VB.ff ?_ | refine VNew.keep ?_ | refine dgo ?_ | refine sgo ?_ | fail)
  conv => whnf
  refine VB.ne (fun h => ?_) (fun h => ?_)
  · repeat' ((conv => whnf); first | refine ngo ?_ | refine VB.tt ?_ | refine VB.ff ?_ | refine VNew.keep ?_ | refine dgo ?_ | refine sgo ?_ | fail)
    conv => whnf
    rw [if_neg h]
  · obtain ⟨h1, h2⟩ := both2_zero h
    obtain ⟨ca, la⟩ := chk_zero h1
    obtain ⟨cb, lb⟩ := chk_zero h2
    repeat' ((conv => whnf); first | refine ngo ?_ | refine VB.tt ?_ | refine VB.ff ?_ | refine VNew.keep ?_ | refine dgo ?_ | refine sgo ?_ | fail)
    conv => whnf
    refine VCall.s (order_c ca cb (by omega) (by omega)) ?_
    repeat' ((conv => whnf); first | refine ngo ?_ | refine VB.tt ?_ | refine VB.ff ?_ | refine VNew.keep ?_ | refine dgo ?_ | refine sgo ?_ | fail)
    conv => whnf
    rw [if_pos h, h]

/-- What a power is, or which error. -/
def powN (a : List Nat) (n : Int) : Nat := if chk a = 0 ∧ 0 ≤ n ∧ n ≤ 10000 then addN (val a ^ n.toNat) else 0
def powE (a : List Nat) (n : Int) : Int := if chk a = 0 then (if 0 ≤ n ∧ n ≤ 10000 then addE (val a ^ n.toNat) else 2) else chk a

theorem and_one (n : Nat) (h : n < 9223372036854775808) : IntKind.wrap .i64 ((BitVec.ofInt (IntKind.bits .i64) (n : Int) &&& BitVec.ofInt (IntKind.bits .i64) 1).toNat : Nat) = ((n % 2 : Nat) : Int) := by
  have e : (BitVec.ofInt (IntKind.bits .i64) (n : Int) &&& BitVec.ofInt (IntKind.bits .i64) 1).toNat = n % 2 := by
    rw [BitVec.toNat_and]
    have h1 : (BitVec.ofInt (IntKind.bits .i64) (n : Int)).toNat = n := by
      rw [BitVec.toNat_ofInt]
      show ((n : Int) % ((2 ^ 64 : Nat) : Int)).toNat = n
      omega
    have h2 : (BitVec.ofInt (IntKind.bits .i64) 1).toNat = 1 := rfl
    rw [h1, h2, Nat.and_one_is_mod]
  rw [e]
  exact (InR.i64 (by omega) (by omega)).eq

theorem one_nat : AV.dsl (limbs [1]) 1 = natv 1 := by
  rw [natv, dg_pos (by decide), show 1 / BB = 0 from rfl, dg_zero]
  rfl
theorem dg_len_one : (dg 1).length = 1 := by
  rw [dg_pos (by decide), show 1 / BB = 0 from rfl, dg_zero]
  rfl

theorem pow_ge {o s m N : Nat} (h : o * s ^ m = N) (hm : 1 ≤ m) (ho : o ≠ 0) : s ≤ N := by
  rcases Nat.eq_zero_or_pos s with h0 | h0
  · omega
  · rw [← h]
    refine Nat.le_trans ?_ (Nat.le_mul_of_pos_left _ (Nat.pos_of_ne_zero ho))
    have := Nat.pow_le_pow_right h0 hm
    rwa [Nat.pow_one] at this
theorem npow_c (a : List Nat) (n : Int) (la : a.length < 1000000000000000000) (n1 : -9223372036854775808 ≤ n) (n2 : n < 9223372036854775808) : VCall EE 27 [natL a, .int .i64 n] [] fun v H => Fz H 0 [] v (.tup [natv (powN a n), .int .i64 (powE a n)]) := by
  refine VCall.of_body true Try.func27 rfl (by decide) rfl ?_
  repeat' ((conv => whnf); first | refine ngo ?_ | refine VB.tt ?_ | refine VB.ff ?_ | refine VNew.keep ?_ | refine dgo ?_ | refine sgo ?_ | fail)
  conv => whnf
  refine VCall.s (check_c a la) ?_
  repeat' ((conv => whnf); first | refine ngo ?_ | refine VB.tt ?_ | refine VB.ff ?_ | refine VNew.keep ?_ | refine dgo ?_ | refine sgo ?_ | fail)
  conv => whnf
  refine VB.ne (fun h => ?_) (fun h => ?_)
  · repeat' ((conv => whnf); first | refine ngo ?_ | refine VB.tt ?_ | refine VB.ff ?_ | refine VNew.keep ?_ | refine dgo ?_ | refine sgo ?_ | fail)
    conv => whnf
    rw [powN, powE, if_neg (fun hh => h hh.1), if_neg h]
    repeat' (first | exact fz_nil0 | exact Fz.nsl | exact Fz.same rfl (by repeat' (first | exact trivial | exact low_natL 0 _ | exact low_limbs 0 _ | refine And.intro ?_ ?_ | fail)) | refine Fz.tup ?_ | refine FzL.cons ?_ ?_ | exact FzL.nil | fail)
  obtain ⟨ca, la⟩ := chk_zero h
  repeat' ((conv => whnf); first | refine ngo ?_ | refine VB.tt ?_ | refine VB.ff ?_ | refine VNew.keep ?_ | refine dgo ?_ | refine sgo ?_ | fail)
  conv => whnf
  by_cases hn0 : n < 0
  · rw [decide_eq_true hn0]
    repeat' ((conv => whnf); first | refine ngo ?_ | refine VB.tt ?_ | refine VB.ff ?_ | refine VNew.keep ?_ | refine dgo ?_ | refine sgo ?_ | fail)
    conv => whnf
    rw [powN, powE, if_neg (by omega), if_pos h, if_neg (by omega)]
    repeat' (first | exact fz_nil0 | exact Fz.nsl | exact Fz.same rfl (by repeat' (first | exact trivial | exact low_natL 0 _ | exact low_limbs 0 _ | refine And.intro ?_ ?_ | fail)) | refine Fz.tup ?_ | refine FzL.cons ?_ ?_ | exact FzL.nil | fail)
  rw [decide_eq_false hn0]
  repeat' ((conv => whnf); first | refine ngo ?_ | refine VB.tt ?_ | refine VB.ff ?_ | refine VNew.keep ?_ | refine dgo ?_ | refine sgo ?_ | fail)
  conv => whnf
  refine VB.dec (fun hn1 => ?_) (fun hn1 => ?_)
  · repeat' ((conv => whnf); first | refine ngo ?_ | refine VB.tt ?_ | refine VB.ff ?_ | refine VNew.keep ?_ | refine dgo ?_ | refine sgo ?_ | fail)
    conv => whnf
    rw [powN, powE, if_neg (by omega), if_pos h, if_neg (by omega)]
    repeat' (first | exact fz_nil0 | exact Fz.nsl | exact Fz.same rfl (by repeat' (first | exact trivial | exact low_natL 0 _ | exact low_limbs 0 _ | refine And.intro ?_ ?_ | fail)) | refine Fz.tup ?_ | refine FzL.cons ?_ ?_ | exact FzL.nil | fail)
  obtain ⟨n, rfl⟩ : ∃ k : Nat, n = (k : Int) := ⟨n.toNat, by omega⟩
  rw [powN, powE, if_pos ⟨h, by omega, by omega⟩, if_pos h, if_pos ⟨by omega, by omega⟩, Int.toNat_natCast]
  repeat' ((conv => whnf); first | refine ngo ?_ | refine VB.tt ?_ | refine VB.ff ?_ | refine dgo ?_ | refine sgo ?_ | fail)
  conv => whnf
  refine VNew.dat (cs' := limbs [1]) rfl rfl ?_
  rw [one_nat]
  repeat' ((conv => whnf); first | refine VB.tt ?_ | refine VB.ff ?_ | refine VNew.keep ?_ | refine dgo ?_ | refine sgo ?_ | fail)
  conv => whnf
  refine VNext.at_ true ⟨[(1, .int .i64 n), (7, natv 1), (8, natv (val a))], [.gone], []⟩ ⟨⟨rfl, rfl, by rw [← canon_natL ca]; rfl, trivial⟩, rfl, rfl⟩ ?_
  repeat' ((conv => whnf); first | refine ngo ?_ | refine VB.tt ?_ | refine VB.ff ?_ | refine VNew.keep ?_ | refine dgo ?_ | refine sgo ?_ | fail)
  conv => whnf
  have hle : ∀ t : Nat, 2 ^ t ≤ n → t ≤ 13 := fun t ht => by
    apply Nat.le_of_not_lt
    intro hh
    have : 2 ^ 14 ≤ 2 ^ t := Nat.pow_le_pow_right (by decide) hh
    omega
  refine VLoop.tr true (fun x : Nat × Nat × Nat × Nat => ⟨[(1, .int .i64 x.1), (7, natv x.2.1), (8, natv x.2.2.1)], [.gone], []⟩)
    (fun x => x.1 ≤ n ∧ x.2.1 * x.2.2.1 ^ x.1 = val a ^ n ∧ (dg x.2.2.1).length ≤ 1024 ∧ (dg x.2.1).length ≤ 1 + 1024 * x.2.2.2 ∧ (x.2.2.2 = 0 ∨ 1 ≤ x.1) ∧ x.1 * 2 ^ x.2.2.2 ≤ n ∧ (x.2.1 = 0 → x.2.2.1 = 0)) (fun x => x.1 + (if x.2.2.2 = 0 then 1 else 0)) (n, 1, val a, 0)
    ⟨Nat.le_refl _, by simp, by rw [dg_val ca]; exact la, by rw [dg_len_one]; simp, .inl rfl, by simp, fun h => absurd h (show (1 : Nat) ≠ 0 by decide)⟩ ⟨⟨rfl, rfl, rfl, trivial⟩, rfl, rfl⟩ ?_
  rintro ⟨m, o, q, t⟩ ⟨hm, hp, hql, hol, ht, hmt, hoq⟩
  dsimp only at hm hp hql hol ht hmt hoq ⊢
  have ht13 : t ≤ 13 := by
    rcases ht with h0 | h0
    · omega
    · have := Nat.mul_le_mul_right (2 ^ t) h0
      exact hle t (by omega)
  have hfd : (m : Int).fdiv (2 ^ min (1 : Int).toNat (IntKind.bits .i64)) = ((m / 2 : Nat) : Int) := by
    rw [show (2 : Int) ^ min (1 : Int).toNat (IntKind.bits .i64) = ((2 : Nat) : Int) from rfl]
    rw [Int.fdiv_eq_ediv_of_nonneg _ (by omega)]; rfl
  have hqq := dg_mul_le q q
  have hoq2 := dg_mul_le o q
  have hm2 : m / 2 * 2 ^ (t + 1) ≤ n := by
    have h1 : m / 2 * 2 ≤ m := Nat.div_mul_le_self m 2
    have h2 := Nat.mul_le_mul_right (2 ^ t) h1
    rw [Nat.pow_succ, Nat.mul_comm (2 ^ t) 2, ← Nat.mul_assoc]
    omega
  have hdm : 2 * (m / 2) + m % 2 = m := Nat.div_add_mod m 2
  repeat' ((conv => whnf); first | refine ngo ?_ | refine VB.tt ?_ | refine VB.ff ?_ | refine VNew.keep ?_ | refine dgo ?_ | refine sgo ?_ | fail)
  conv => whnf
  rw [and_one _ (by omega)]
  refine VB.eq (fun hb => ?_) (fun hb => ?_)
  · have hb : m % 2 = 1 := by omega
    have hp' : o * q * (q * q) ^ (m / 2) = val a ^ n := by
      rw [← hp, Nat.mul_assoc, ← Nat.pow_two, ← Nat.pow_mul, ← Nat.pow_succ']
      congr 2
      omega
    have hoq' : o * q = 0 → q * q = 0 := fun h => by
      rcases Nat.mul_eq_zero.1 h with h1 | h1
      · rw [hoq h1]
      · rw [h1]
    have hol' : (dg (o * q)).length ≤ 1 + 1024 * (t + 1) := by omega
    have hpr := product_n (a := o) (b := q) (by omega) (by omega)
    generalize o * q = o' at *
    repeat' ((conv => whnf); first | refine ngo ?_ | refine VB.tt ?_ | refine VB.ff ?_ | refine VNew.keep ?_ | refine dgo ?_ | refine sgo ?_ | fail)
    conv => whnf
    refine VCall.i (hpr) ?_
    repeat' ((conv => whnf); first | refine ngo ?_ | refine VB.tt ?_ | refine VB.ff ?_ | refine VNew.keep ?_ | refine dgo ?_ | refine sgo ?_ | fail)
    conv => whnf
    rw [hfd]
    refine VB.eq (fun hz => ?_) (fun hz => ?_)
    · have hz : m / 2 = 0 := by omega
      rw [hz, Nat.pow_zero, Nat.mul_one] at hp'
      repeat' ((conv => whnf); first | refine ngo ?_ | refine VB.tt ?_ | refine VB.ff ?_ | refine VNew.keep ?_ | refine dgo ?_ | refine sgo ?_ | fail)
      conv => whnf
      refine VCall.i (fits_c (by omega)) ?_
      repeat' ((conv => whnf); first | refine ngo ?_ | refine VB.tt ?_ | refine VB.ff ?_ | refine VNew.keep ?_ | refine dgo ?_ | refine sgo ?_ | fail)
      conv => whnf
      rw [← hp', addN, addE]
      repeat' (first | exact fz_nil0 | exact Fz.nsl | exact Fz.same rfl (by repeat' (first | exact trivial | exact low_natL 0 _ | exact low_limbs 0 _ | refine And.intro ?_ ?_ | fail)) | refine Fz.tup ?_ | refine FzL.cons ?_ ?_ | exact FzL.nil | fail)
    · have hz : m / 2 ≠ 0 := by omega
      have hpq := product_n (a := q) (b := q) (by omega) (by omega)
      have hge : o' ≠ 0 → q * q ≤ val a ^ n := fun h => pow_ge hp' (by omega) h
      generalize q * q = s at *
      repeat' ((conv => whnf); first | refine ngo ?_ | refine VB.tt ?_ | refine VB.ff ?_ | refine VNew.keep ?_ | refine dgo ?_ | refine sgo ?_ | fail)
      conv => whnf
      refine VCall.i (hpq) ?_
      repeat' ((conv => whnf); first | refine ngo ?_ | refine VB.tt ?_ | refine VB.ff ?_ | refine VNew.keep ?_ | refine dgo ?_ | refine sgo ?_ | fail)
      conv => whnf
      refine VB.dec (fun hl => ?_) (fun hl => ?_)
      · have hs0 : s ≠ 0 := by rintro rfl; rw [dg_zero] at hl; exact absurd hl (by decide)
        have ho0 : o' ≠ 0 := fun e => hs0 (hoq' e)
        have := dg_length_mono (hge ho0)
        repeat' ((conv => whnf); first | refine ngo ?_ | refine VB.tt ?_ | refine VB.ff ?_ | refine VNew.keep ?_ | refine dgo ?_ | refine sgo ?_ | fail)
        conv => whnf
        rw [addN, addE, if_pos (by omega), if_pos (by omega)]
        repeat' (first | exact fz_nil0 | exact Fz.nsl | exact Fz.same rfl (by repeat' (first | exact trivial | exact low_natL 0 _ | exact low_limbs 0 _ | refine And.intro ?_ ?_ | fail)) | refine Fz.tup ?_ | refine FzL.cons ?_ ?_ | exact FzL.nil | fail)
      · repeat' ((conv => whnf); first | refine ngo ?_ | refine VB.tt ?_ | refine VB.ff ?_ | refine VNew.keep ?_ | refine dgo ?_ | refine sgo ?_ | fail)
        conv => whnf
        refine ⟨(m / 2, o', s, t + 1), ⟨by dsimp only; omega, hp', by dsimp only; omega, hol', .inr (by dsimp only; omega), hm2, hoq'⟩, by dsimp only; rw [if_neg (by omega)]; split <;> omega, [], by simp, by simp, ⟨⟨_, rfl, .gone⟩, trivial⟩, FzFr.sub ⟨trivial, low_natL _ _, low_natL _ _, trivial⟩ ⟨by simp only [lk]; rw [← hfd]; rfl, rfl, rfl, trivial⟩, rfl, by simp⟩
  · have hb : m % 2 = 0 := by omega
    have hp' : o * (q * q) ^ (m / 2) = val a ^ n := by
      rw [← hp, ← Nat.pow_two, ← Nat.pow_mul]
      congr 2
      omega
    have hoq' : o = 0 → q * q = 0 := fun h => by rw [hoq h]
    have hol' : (dg o).length ≤ 1 + 1024 * (t + 1) := by omega
    repeat' ((conv => whnf); first | refine ngo ?_ | refine VB.tt ?_ | refine VB.ff ?_ | refine VNew.keep ?_ | refine dgo ?_ | refine sgo ?_ | fail)
    conv => whnf
    rw [hfd]
    refine VB.eq (fun hz => ?_) (fun hz => ?_)
    · have hz : m / 2 = 0 := by omega
      rw [hz, Nat.pow_zero, Nat.mul_one] at hp'
      repeat' ((conv => whnf); first | refine ngo ?_ | refine VB.tt ?_ | refine VB.ff ?_ | refine VNew.keep ?_ | refine dgo ?_ | refine sgo ?_ | fail)
      conv => whnf
      refine VCall.i (fits_c (by omega)) ?_
      repeat' ((conv => whnf); first | refine ngo ?_ | refine VB.tt ?_ | refine VB.ff ?_ | refine VNew.keep ?_ | refine dgo ?_ | refine sgo ?_ | fail)
      conv => whnf
      rw [← hp', addN, addE]
      repeat' (first | exact fz_nil0 | exact Fz.nsl | exact Fz.same rfl (by repeat' (first | exact trivial | exact low_natL 0 _ | exact low_limbs 0 _ | refine And.intro ?_ ?_ | fail)) | refine Fz.tup ?_ | refine FzL.cons ?_ ?_ | exact FzL.nil | fail)
    · have hz : m / 2 ≠ 0 := by omega
      have hpq := product_n (a := q) (b := q) (by omega) (by omega)
      have hge : o ≠ 0 → q * q ≤ val a ^ n := fun h => pow_ge hp' (by omega) h
      generalize q * q = s at *
      repeat' ((conv => whnf); first | refine ngo ?_ | refine VB.tt ?_ | refine VB.ff ?_ | refine VNew.keep ?_ | refine dgo ?_ | refine sgo ?_ | fail)
      conv => whnf
      refine VCall.i (hpq) ?_
      repeat' ((conv => whnf); first | refine ngo ?_ | refine VB.tt ?_ | refine VB.ff ?_ | refine VNew.keep ?_ | refine dgo ?_ | refine sgo ?_ | fail)
      conv => whnf
      refine VB.dec (fun hl => ?_) (fun hl => ?_)
      · have hs0 : s ≠ 0 := by rintro rfl; rw [dg_zero] at hl; exact absurd hl (by decide)
        have ho0 : o ≠ 0 := fun e => hs0 (hoq' e)
        have := dg_length_mono (hge ho0)
        repeat' ((conv => whnf); first | refine ngo ?_ | refine VB.tt ?_ | refine VB.ff ?_ | refine VNew.keep ?_ | refine dgo ?_ | refine sgo ?_ | fail)
        conv => whnf
        rw [addN, addE, if_pos (by omega), if_pos (by omega)]
        repeat' (first | exact fz_nil0 | exact Fz.nsl | exact Fz.same rfl (by repeat' (first | exact trivial | exact low_natL 0 _ | exact low_limbs 0 _ | refine And.intro ?_ ?_ | fail)) | refine Fz.tup ?_ | refine FzL.cons ?_ ?_ | exact FzL.nil | fail)
      · repeat' ((conv => whnf); first | refine ngo ?_ | refine VB.tt ?_ | refine VB.ff ?_ | refine VNew.keep ?_ | refine dgo ?_ | refine sgo ?_ | fail)
        conv => whnf
        refine ⟨(m / 2, o, s, t + 1), ⟨by dsimp only; omega, hp', by dsimp only; omega, hol', .inr (by dsimp only; omega), hm2, hoq'⟩, by dsimp only; rw [if_neg (by omega)]; split <;> omega, [], by simp, by simp, ⟨⟨_, rfl, .gone⟩, trivial⟩, FzFr.sub ⟨trivial, low_natL _ _, low_natL _ _, trivial⟩ ⟨by simp only [lk]; rw [← hfd]; rfl, rfl, rfl, trivial⟩, rfl, by simp⟩
end Go.Proofs.Ytcdnonggajoghaa
