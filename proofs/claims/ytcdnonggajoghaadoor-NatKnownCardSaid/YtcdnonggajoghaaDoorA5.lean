/- The program logic and the contracts that a law leans on, part 5. -/
import Derived.Test.YtcdnonggajoghaaDoorA4
import Derived.Test.YtcdnonggajoghaaDoorA3
import Derived.Test.YtcdnonggajoghaaDoorA2

/- Contracts: the document's calls for sums, differences and powers. -/
namespace Go.Proofs.YtcdnonggajoghaaDoor
open Go Go.RowKit
set_option linter.unusedVariables false
set_option linter.unusedSimpArgs false
set_option maxRecDepth 100000

theorem dg_add_le (a b : Nat) : (dg (a + b)).length ≤ max (dg a).length (dg b).length + 1 := by
  refine length_dg_lt ?_
  have h1 := lt_of_length_dg a
  have h2 := lt_of_length_dg b
  have h3 : BB ^ (dg a).length ≤ BB ^ max (dg a).length (dg b).length := Nat.pow_le_pow_right (by decide) (Nat.le_max_left _ _)
  have h4 : BB ^ (dg b).length ≤ BB ^ max (dg a).length (dg b).length := Nat.pow_le_pow_right (by decide) (Nat.le_max_right _ _)
  rw [Nat.pow_succ]
  have hBB : BB = 1000000000 := rfl
  have h5 : BB ^ max (dg a).length (dg b).length * 2 ≤ BB ^ max (dg a).length (dg b).length * BB := Nat.mul_le_mul_left _ (by decide)
  omega

def addN (n : Nat) : Nat := if 1024 < (dg n).length then 0 else n
def addE (n : Nat) : Int := if 1024 < (dg n).length then 5 else 0
theorem sum_n {a b : Nat} (la : (dg a).length < 10000000) (lb : (dg b).length < 10000000) : VCall EE 45 [natv a, natv b] [] fun v H => Fz H 0 [] v (natv (a + b)) := by
  have := sum_own (okL_dg a) (okL_dg b) la lb
  rwa [val_dg, val_dg] at this
theorem less_n {a b : Nat} (la : (dg a).length < 10000000) (h : b ≤ a) : VCall EE 47 [natv a, natv b] [] fun v H => Fz H 0 [] v (natv (a - b)) := by
  have := less_own (okL_dg a) (okL_dg b) la (dg_length_mono h) (by rwa [val_dg, val_dg])
  rwa [val_dg, val_dg] at this

theorem nadd1_c {a b : List Nat} (ca : canon a) (cb : canon b) (la : a.length ≤ 1024) (lb : b.length ≤ 1024) : VCall EE 43 [natL a, natL b] [] fun v H => Fz H 0 [] v (.tup [natv (addN (val a + val b)), .int .i64 (addE (val a + val b))]) := by
  refine VCall.of_body true Tryd.func43 rfl (by decide) rfl ?_
  have hp := sum_own (a := a) (b := b) ca.1 cb.1 (by omega) (by omega)
  have hl := dg_add_le (val a) (val b)
  rw [dg_val ca, dg_val cb] at hl
  repeat' ((conv => whnf); first | refine ngo ?_ | refine VB.tt ?_ | refine VB.ff ?_ | refine VNew.keep ?_ | refine dgo ?_ | refine sgo ?_ | fail)
  conv => whnf
  refine VCall.i (hp) ?_
  repeat' ((conv => whnf); first | refine ngo ?_ | refine VB.tt ?_ | refine VB.ff ?_ | refine VNew.keep ?_ | refine dgo ?_ | refine sgo ?_ | fail)
  conv => whnf
  refine VCall.i (fits_c (by omega)) ?_
  repeat' ((conv => whnf); first | refine ngo ?_ | refine VB.tt ?_ | refine VB.ff ?_ | refine VNew.keep ?_ | refine dgo ?_ | refine sgo ?_ | fail)
  conv => whnf
  rw [addN, addE]
  repeat' (first | exact fz_nil0 | exact Fz.nsl | exact Fz.same rfl (by repeat' (first | exact trivial | exact low_natL 0 _ | exact low_limbs 0 _ | refine And.intro ?_ ?_ | fail)) | refine Fz.tup ?_ | refine FzL.cons ?_ ?_ | exact FzL.nil | fail)

theorem nadd_c (a b : List Nat) (la : a.length < 1000000000000000000) (lb : b.length < 1000000000000000000) : VCall EE 20 [natL a, natL b] [] fun v H => Fz H 0 [] v (res2 a b (addN (val a + val b)) (addE (val a + val b))) := by
  refine VCall.of_body true Tryd.func20 rfl (by decide) rfl ?_
  repeat' ((conv => whnf); first | refine ngo ?_ | refine VB.tt ?_ | refine VB.ff ?_ | refine VNew.keep ?_ | refine dgo ?_ | refine sgo ?_ | fail)
  conv => whnf
  refine VCall.i (with_c la lb (fun h => nadd1_c (chk_zero (both2_zero h).1).1 (chk_zero (both2_zero h).2).1 (chk_zero (both2_zero h).1).2 (chk_zero (both2_zero h).2).2)) ?_
  repeat' ((conv => whnf); first | refine ngo ?_ | refine VB.tt ?_ | refine VB.ff ?_ | refine VNew.keep ?_ | refine dgo ?_ | refine sgo ?_ | fail)
  conv => whnf
  repeat' (first | exact fz_nil0 | exact Fz.nsl | exact Fz.same rfl (by repeat' (first | exact trivial | exact low_natL 0 _ | exact low_limbs 0 _ | refine And.intro ?_ ?_ | fail)) | refine Fz.tup ?_ | refine FzL.cons ?_ ?_ | exact FzL.nil | fail)

def subE (a b : Nat) : Int := if a < b then 2 else 0
theorem cmpN_neg {a b : Nat} : cmpN a b < 0 ↔ a < b := by
  unfold cmpN
  split
  · simp_all
  · split <;> simp_all

theorem nsub1_c {a b : List Nat} (ca : canon a) (cb : canon b) (la : a.length ≤ 1024) (lb : b.length ≤ 1024) : VCall EE 46 [natL a, natL b] [] fun v H => Fz H 0 [] v (.tup [natv (val a - val b), .int .i64 (subE (val a) (val b))]) := by
  refine VCall.of_body true Tryd.func46 rfl (by decide) rfl ?_
  repeat' ((conv => whnf); first | refine ngo ?_ | refine VB.tt ?_ | refine VB.ff ?_ | refine VNew.keep ?_ | refine dgo ?_ | refine sgo ?_ | fail)
  conv => whnf
  refine VCall.s (order_c ca cb (by omega) (by omega)) ?_
  repeat' ((conv => whnf); first | refine ngo ?_ | refine VB.tt ?_ | refine VB.ff ?_ | refine VNew.keep ?_ | refine dgo ?_ | refine sgo ?_ | fail)
  conv => whnf
  refine VB.dec (fun h => ?_) (fun h => ?_)
  · have h := cmpN_neg.1 h
    repeat' ((conv => whnf); first | refine ngo ?_ | refine VB.tt ?_ | refine VB.ff ?_ | refine VNew.keep ?_ | refine dgo ?_ | refine sgo ?_ | fail)
    conv => whnf
    rw [subE, if_pos h, Nat.sub_eq_zero_of_le (Nat.le_of_lt h)]
    repeat' (first | exact fz_nil0 | exact Fz.nsl | exact Fz.same rfl (by repeat' (first | exact trivial | exact low_natL 0 _ | exact low_limbs 0 _ | refine And.intro ?_ ?_ | fail)) | refine Fz.tup ?_ | refine FzL.cons ?_ ?_ | exact FzL.nil | fail)
  · have h : ¬ val a < val b := fun hh => h (cmpN_neg.2 hh)
    have hl := dg_length_mono (show val b ≤ val a by omega)
    rw [dg_val ca, dg_val cb] at hl
    repeat' ((conv => whnf); first | refine ngo ?_ | refine VB.tt ?_ | refine VB.ff ?_ | refine VNew.keep ?_ | refine dgo ?_ | refine sgo ?_ | fail)
    conv => whnf
    refine VCall.i (less_own ca.1 cb.1 (by omega) hl (by omega)) ?_
    repeat' ((conv => whnf); first | refine ngo ?_ | refine VB.tt ?_ | refine VB.ff ?_ | refine VNew.keep ?_ | refine dgo ?_ | refine sgo ?_ | fail)
    conv => whnf
    rw [subE, if_neg h]
    repeat' (first | exact fz_nil0 | exact Fz.nsl | exact Fz.same rfl (by repeat' (first | exact trivial | exact low_natL 0 _ | exact low_limbs 0 _ | refine And.intro ?_ ?_ | fail)) | refine Fz.tup ?_ | refine FzL.cons ?_ ?_ | exact FzL.nil | fail)

theorem nsub_c (a b : List Nat) (la : a.length < 1000000000000000000) (lb : b.length < 1000000000000000000) : VCall EE 21 [natL a, natL b] [] fun v H => Fz H 0 [] v (res2 a b (val a - val b) (subE (val a) (val b))) := by
  refine VCall.of_body true Tryd.func21 rfl (by decide) rfl ?_
  repeat' ((conv => whnf); first | refine ngo ?_ | refine VB.tt ?_ | refine VB.ff ?_ | refine VNew.keep ?_ | refine dgo ?_ | refine sgo ?_ | fail)
  conv => whnf
  refine VCall.i (with_c la lb (fun h => nsub1_c (chk_zero (both2_zero h).1).1 (chk_zero (both2_zero h).2).1 (chk_zero (both2_zero h).1).2 (chk_zero (both2_zero h).2).2)) ?_
  repeat' ((conv => whnf); first | refine ngo ?_ | refine VB.tt ?_ | refine VB.ff ?_ | refine VNew.keep ?_ | refine dgo ?_ | refine sgo ?_ | fail)
  conv => whnf
  repeat' (first | exact fz_nil0 | exact Fz.nsl | exact Fz.same rfl (by repeat' (first | exact trivial | exact low_natL 0 _ | exact low_limbs 0 _ | refine And.intro ?_ ?_ | fail)) | refine Fz.tup ?_ | refine FzL.cons ?_ ?_ | exact FzL.nil | fail)

theorem ncmp_c (a b : List Nat) (la : a.length < 1000000000000000000) (lb : b.length < 1000000000000000000) : VCall EE 16 [natL a, natL b] [] fun v H => v = .tup [.int .i64 (if both2 a b = 0 then cmpN (val a) (val b) else 0), .int .i64 (both2 a b)] := by
  refine VCall.of_body true Tryd.func16 rfl (by decide) rfl ?_
  repeat' ((conv => whnf); first | refine ngo ?_ | refine VB.tt ?_ | refine VB.ff ?_ | refine dgo ?_ | refine sgo ?_ | fail)
  conv => whnf
  refine VNew.dat (cs' := [natL a, natL b]) rfl rfl ?_
  repeat' ((conv => whnf); first | refine ngo ?_ | refine VB.tt ?_ | refine VB.ff ?_ | refine VNew.keep ?_ | refine dgo ?_ | refine sgo ?_ | fail)
  conv => whnf
  refine VCall.s (checked_c a b la lb) ?_
  repeat' ((conv => whnf); first | refine ngo ?_ | refine VB.tt ?_ | refine VB.ff ?_ | refine VNew.keep ?_ | refine dgo ?_ | refine sgo ?_ | fail)
  conv => whnf
  refine VB.ne (fun h => ?_) (fun h => ?_)
  · repeat' ((conv => whnf); first | refine ngo ?_ | refine VB.tt ?_ | refine VB.ff ?_ | refine VNew.keep ?_ | refine dgo ?_ | refine sgo ?_ | fail)
    conv => whnf
    rw [if_neg h]
  · obtain ⟨h1, h2⟩ := both2_zero h
    obtain ⟨ca, la⟩ := chk_zero h1
    obtain ⟨cb, lb⟩ := chk_zero h2
    repeat' ((conv => whnf); first | refine ngo ?_ | refine VB.tt ?_ | refine VB.ff ?_ | refine VNew.keep ?_ | refine dgo ?_ | refine sgo ?_ | fail)
    conv => whnf
    refine VCall.s (order_c ca cb (by omega) (by omega)) ?_
    repeat' ((conv => whnf); first | refine ngo ?_ | refine VB.tt ?_ | refine VB.ff ?_ | refine VNew.keep ?_ | refine dgo ?_ | refine sgo ?_ | fail)
    conv => whnf
    rw [if_pos h, h]

/-- What a power is, or which error. -/
def powN (a : List Nat) (n : Int) : Nat := if chk a = 0 ∧ 0 ≤ n ∧ n ≤ 10000 then addN (val a ^ n.toNat) else 0
def powE (a : List Nat) (n : Int) : Int := if chk a = 0 then (if 0 ≤ n ∧ n ≤ 10000 then addE (val a ^ n.toNat) else 2) else chk a

theorem and_one (n : Nat) (h : n < 9223372036854775808) : IntKind.wrap .i64 ((BitVec.ofInt (IntKind.bits .i64) (n : Int) &&& BitVec.ofInt (IntKind.bits .i64) 1).toNat : Nat) = ((n % 2 : Nat) : Int) := by
  have e : (BitVec.ofInt (IntKind.bits .i64) (n : Int) &&& BitVec.ofInt (IntKind.bits .i64) 1).toNat = n % 2 := by
    rw [BitVec.toNat_and]
    have h1 : (BitVec.ofInt (IntKind.bits .i64) (n : Int)).toNat = n := by
      rw [BitVec.toNat_ofInt]
      show ((n : Int) % ((2 ^ 64 : Nat) : Int)).toNat = n
      omega
    have h2 : (BitVec.ofInt (IntKind.bits .i64) 1).toNat = 1 := rfl
    rw [h1, h2, Nat.and_one_is_mod]
  rw [e]
  exact (InR.i64 (by omega) (by omega)).eq

theorem one_nat : AV.dsl (limbs [1]) 1 = natv 1 := by
  rw [natv, dg_pos (by decide), show 1 / BB = 0 from rfl, dg_zero]
  rfl
theorem dg_len_one : (dg 1).length = 1 := by
  rw [dg_pos (by decide), show 1 / BB = 0 from rfl, dg_zero]
  rfl

theorem pow_ge {o s m N : Nat} (h : o * s ^ m = N) (hm : 1 ≤ m) (ho : o ≠ 0) : s ≤ N := by
  rcases Nat.eq_zero_or_pos s with h0 | h0
  · omega
  · rw [← h]
    refine Nat.le_trans ?_ (Nat.le_mul_of_pos_left _ (Nat.pos_of_ne_zero ho))
    have := Nat.pow_le_pow_right h0 hm
    rwa [Nat.pow_one] at this
theorem npow_c (a : List Nat) (n : Int) (la : a.length < 1000000000000000000) (n1 : -9223372036854775808 ≤ n) (n2 : n < 9223372036854775808) : VCall EE 25 [natL a, .int .i64 n] [] fun v H => Fz H 0 [] v (.tup [natv (powN a n), .int .i64 (powE a n)]) := by
  refine VCall.of_body true Tryd.func25 rfl (by decide) rfl ?_
  repeat' ((conv => whnf); first | refine ngo ?_ | refine VB.tt ?_ | refine VB.ff ?_ | refine VNew.keep ?_ | refine dgo ?_ | refine sgo ?_ | fail)
  conv => whnf
  refine VCall.s (check_c a la) ?_
  repeat' ((conv => whnf); first | refine ngo ?_ | refine VB.tt ?_ | refine VB.ff ?_ | refine VNew.keep ?_ | refine dgo ?_ | refine sgo ?_ | fail)
  conv => whnf
  refine VB.ne (fun h => ?_) (fun h => ?_)
  · repeat' ((conv => whnf); first | refine ngo ?_ | refine VB.tt ?_ | refine VB.ff ?_ | refine VNew.keep ?_ | refine dgo ?_ | refine sgo ?_ | fail)
    conv => whnf
    rw [powN, powE, if_neg (fun hh => h hh.1), if_neg h]
    repeat' (first | exact fz_nil0 | exact Fz.nsl | exact Fz.same rfl (by repeat' (first | exact trivial | exact low_natL 0 _ | exact low_limbs 0 _ | refine And.intro ?_ ?_ | fail)) | refine Fz.tup ?_ | refine FzL.cons ?_ ?_ | exact FzL.nil | fail)
  obtain ⟨ca, la⟩ := chk_zero h
  repeat' ((conv => whnf); first | refine ngo ?_ | refine VB.tt ?_ | refine VB.ff ?_ | refine VNew.keep ?_ | refine dgo ?_ | refine sgo ?_ | fail)
  conv => whnf
  by_cases hn0 : n < 0
  · rw [decide_eq_true hn0]
    repeat' ((conv => whnf); first | refine ngo ?_ | refine VB.tt ?_ | refine VB.ff ?_ | refine VNew.keep ?_ | refine dgo ?_ | refine sgo ?_ | fail)
    conv => whnf
    rw [powN, powE, if_neg (by omega), if_pos h, if_neg (by omega)]
    repeat' (first | exact fz_nil0 | exact Fz.nsl | exact Fz.same rfl (by repeat' (first | exact trivial | exact low_natL 0 _ | exact low_limbs 0 _ | refine And.intro ?_ ?_ | fail)) | refine Fz.tup ?_ | refine FzL.cons ?_ ?_ | exact FzL.nil | fail)
  rw [decide_eq_false hn0]
  repeat' ((conv => whnf); first | refine ngo ?_ | refine VB.tt ?_ | refine VB.ff ?_ | refine VNew.keep ?_ | refine dgo ?_ | refine sgo ?_ | fail)
  conv => whnf
  refine VB.dec (fun hn1 => ?_) (fun hn1 => ?_)
  · repeat' ((conv => whnf); first | refine ngo ?_ | refine VB.tt ?_ | refine VB.ff ?_ | refine VNew.keep ?_ | refine dgo ?_ | refine sgo ?_ | fail)
    conv => whnf
    rw [powN, powE, if_neg (by omega), if_pos h, if_neg (by omega)]
    repeat' (first | exact fz_nil0 | exact Fz.nsl | exact Fz.same rfl (by repeat' (first | exact trivial | exact low_natL 0 _ | exact low_limbs 0 _ | refine And.intro ?_ ?_ | fail)) | refine Fz.tup ?_ | refine FzL.cons ?_ ?_ | exact FzL.nil | fail)
  obtain ⟨n, rfl⟩ : ∃ k : Nat, n = (k : Int) := ⟨n.toNat, by omega⟩
  rw [powN, powE, if_pos ⟨h, by omega, by omega⟩, if_pos h, if_pos ⟨by omega, by omega⟩, Int.toNat_natCast]
  repeat' ((conv => whnf); first | refine ngo ?_ | refine VB.tt ?_ | refine VB.ff ?_ | refine dgo ?_ | refine sgo ?_ | fail)
  conv => whnf
  refine VNew.dat (cs' := limbs [1]) rfl rfl ?_
  rw [one_nat]
  repeat' ((conv => whnf); first | refine VB.tt ?_ | refine VB.ff ?_ | refine VNew.keep ?_ | refine dgo ?_ | refine sgo ?_ | fail)
  conv => whnf
  refine VNext.at_ true ⟨[(1, .int .i64 n), (7, natv 1), (8, natv (val a))], [.gone], []⟩ ⟨⟨rfl, rfl, by rw [← canon_natL ca]; rfl, trivial⟩, rfl, rfl⟩ ?_
  repeat' ((conv => whnf); first | refine ngo ?_ | refine VB.tt ?_ | refine VB.ff ?_ | refine VNew.keep ?_ | refine dgo ?_ | refine sgo ?_ | fail)
  conv => whnf
  have hle : ∀ t : Nat, 2 ^ t ≤ n → t ≤ 13 := fun t ht => by
    apply Nat.le_of_not_lt
    intro hh
    have : 2 ^ 14 ≤ 2 ^ t := Nat.pow_le_pow_right (by decide) hh
    omega
  refine VLoop.tr true (fun x : Nat × Nat × Nat × Nat => ⟨[(1, .int .i64 x.1), (7, natv x.2.1), (8, natv x.2.2.1)], [.gone], []⟩)
    (fun x => x.1 ≤ n ∧ x.2.1 * x.2.2.1 ^ x.1 = val a ^ n ∧ (dg x.2.2.1).length ≤ 1024 ∧ (dg x.2.1).length ≤ 1 + 1024 * x.2.2.2 ∧ (x.2.2.2 = 0 ∨ 1 ≤ x.1) ∧ x.1 * 2 ^ x.2.2.2 ≤ n ∧ (x.2.1 = 0 → x.2.2.1 = 0)) (fun x => x.1 + (if x.2.2.2 = 0 then 1 else 0)) (n, 1, val a, 0)
    ⟨Nat.le_refl _, by simp, by rw [dg_val ca]; exact la, by rw [dg_len_one]; simp, .inl rfl, by simp, fun h => absurd h (show (1 : Nat) ≠ 0 by decide)⟩ ⟨⟨rfl, rfl, rfl, trivial⟩, rfl, rfl⟩ ?_
  rintro ⟨m, o, q, t⟩ ⟨hm, hp, hql, hol, ht, hmt, hoq⟩
  dsimp only at hm hp hql hol ht hmt hoq ⊢
  have ht13 : t ≤ 13 := by
    rcases ht with h0 | h0
    · omega
    · have := Nat.mul_le_mul_right (2 ^ t) h0
      exact hle t (by omega)
  have hfd : (m : Int).fdiv (2 ^ min (1 : Int).toNat (IntKind.bits .i64)) = ((m / 2 : Nat) : Int) := by
    rw [show (2 : Int) ^ min (1 : Int).toNat (IntKind.bits .i64) = ((2 : Nat) : Int) from rfl]
    rw [Int.fdiv_eq_ediv_of_nonneg _ (by omega)]; rfl
  have hqq := dg_mul_le q q
  have hoq2 := dg_mul_le o q
  have hm2 : m / 2 * 2 ^ (t + 1) ≤ n := by
    have h1 : m / 2 * 2 ≤ m := Nat.div_mul_le_self m 2
    have h2 := Nat.mul_le_mul_right (2 ^ t) h1
    rw [Nat.pow_succ, Nat.mul_comm (2 ^ t) 2, ← Nat.mul_assoc]
    omega
  have hdm : 2 * (m / 2) + m % 2 = m := Nat.div_add_mod m 2
  repeat' ((conv => whnf); first | refine ngo ?_ | refine VB.tt ?_ | refine VB.ff ?_ | refine VNew.keep ?_ | refine dgo ?_ | refine sgo ?_ | fail)
  conv => whnf
  rw [and_one _ (by omega)]
  refine VB.eq (fun hb => ?_) (fun hb => ?_)
  · have hb : m % 2 = 1 := by omega
    have hp' : o * q * (q * q) ^ (m / 2) = val a ^ n := by
      rw [← hp, Nat.mul_assoc, ← Nat.pow_two, ← Nat.pow_mul, ← Nat.pow_succ']
      congr 2
      omega
    have hoq' : o * q = 0 → q * q = 0 := fun h => by
      rcases Nat.mul_eq_zero.1 h with h1 | h1
      · rw [hoq h1]
      · rw [h1]
    have hol' : (dg (o * q)).length ≤ 1 + 1024 * (t + 1) := by omega
    have hpr := product_n (a := o) (b := q) (by omega) (by omega)
    generalize o * q = o' at *
    repeat' ((conv => whnf); first | refine ngo ?_ | refine VB.tt ?_ | refine VB.ff ?_ | refine VNew.keep ?_ | refine dgo ?_ | refine sgo ?_ | fail)
    conv => whnf
    refine VCall.i (hpr) ?_
    repeat' ((conv => whnf); first | refine ngo ?_ | refine VB.tt ?_ | refine VB.ff ?_ | refine VNew.keep ?_ | refine dgo ?_ | refine sgo ?_ | fail)
    conv => whnf
    rw [hfd]
    refine VB.eq (fun hz => ?_) (fun hz => ?_)
    · have hz : m / 2 = 0 := by omega
      rw [hz, Nat.pow_zero, Nat.mul_one] at hp'
      repeat' ((conv => whnf); first | refine ngo ?_ | refine VB.tt ?_ | refine VB.ff ?_ | refine VNew.keep ?_ | refine dgo ?_ | refine sgo ?_ | fail)
      conv => whnf
      refine VCall.i (fits_c (by omega)) ?_
      repeat' ((conv => whnf); first | refine ngo ?_ | refine VB.tt ?_ | refine VB.ff ?_ | refine VNew.keep ?_ | refine dgo ?_ | refine sgo ?_ | fail)
      conv => whnf
      rw [← hp', addN, addE]
      repeat' (first | exact fz_nil0 | exact Fz.nsl | exact Fz.same rfl (by repeat' (first | exact trivial | exact low_natL 0 _ | exact low_limbs 0 _ | refine And.intro ?_ ?_ | fail)) | refine Fz.tup ?_ | refine FzL.cons ?_ ?_ | exact FzL.nil | fail)
    · have hz : m / 2 ≠ 0 := by omega
      have hpq := product_n (a := q) (b := q) (by omega) (by omega)
      have hge : o' ≠ 0 → q * q ≤ val a ^ n := fun h => pow_ge hp' (by omega) h
      generalize q * q = s at *
      repeat' ((conv => whnf); first | refine ngo ?_ | refine VB.tt ?_ | refine VB.ff ?_ | refine VNew.keep ?_ | refine dgo ?_ | refine sgo ?_ | fail)
      conv => whnf
      refine VCall.i (hpq) ?_
      repeat' ((conv => whnf); first | refine ngo ?_ | refine VB.tt ?_ | refine VB.ff ?_ | refine VNew.keep ?_ | refine dgo ?_ | refine sgo ?_ | fail)
      conv => whnf
      refine VB.dec (fun hl => ?_) (fun hl => ?_)
      · have hs0 : s ≠ 0 := by rintro rfl; rw [dg_zero] at hl; exact absurd hl (by decide)
        have ho0 : o' ≠ 0 := fun e => hs0 (hoq' e)
        have := dg_length_mono (hge ho0)
        repeat' ((conv => whnf); first | refine ngo ?_ | refine VB.tt ?_ | refine VB.ff ?_ | refine VNew.keep ?_ | refine dgo ?_ | refine sgo ?_ | fail)
        conv => whnf
        rw [addN, addE, if_pos (by omega), if_pos (by omega)]
        repeat' (first | exact fz_nil0 | exact Fz.nsl | exact Fz.same rfl (by repeat' (first | exact trivial | exact low_natL 0 _ | exact low_limbs 0 _ | refine And.intro ?_ ?_ | fail)) | refine Fz.tup ?_ | refine FzL.cons ?_ ?_ | exact FzL.nil | fail)
      · repeat' ((conv => whnf); first | refine ngo ?_ | refine VB.tt ?_ | refine VB.ff ?_ | refine VNew.keep ?_ | refine dgo ?_ | refine sgo ?_ | fail)
        conv => whnf
        refine ⟨(m / 2, o', s, t + 1), ⟨by dsimp only; omega, hp', by dsimp only; omega, hol', .inr (by dsimp only; omega), hm2, hoq'⟩, by dsimp only; rw [if_neg (by omega)]; split <;> omega, [], by simp, by simp, ⟨⟨_, rfl, .gone⟩, trivial⟩, FzFr.sub ⟨trivial, low_natL _ _, low_natL _ _, trivial⟩ ⟨by simp only [lk]; rw [← hfd]; rfl, rfl, rfl, trivial⟩, rfl, by simp⟩
  · have hb : m % 2 = 0 := by omega
    have hp' : o * (q * q) ^ (m / 2) = val a ^ n := by
      rw [← hp, ← Nat.pow_two, ← Nat.pow_mul]
      congr 2
      omega
    have hoq' : o = 0 → q * q = 0 := fun h => by rw [hoq h]
    have hol' : (dg o).length ≤ 1 + 1024 * (t + 1) := by omega
    repeat' ((conv => whnf); first | refine ngo ?_ | refine VB.tt ?_ | refine VB.ff ?_ | refine VNew.keep ?_ | refine dgo ?_ | refine sgo ?_ | fail)
    conv => whnf
    rw [hfd]
    refine VB.eq (fun hz => ?_) (fun hz => ?_)
    · have hz : m / 2 = 0 := by omega
      rw [hz, Nat.pow_zero, Nat.mul_one] at hp'
      repeat' ((conv => whnf); first | refine ngo ?_ | refine VB.tt ?_ | refine VB.ff ?_ | refine VNew.keep ?_ | refine dgo ?_ | refine sgo ?_ | fail)
      conv => whnf
      refine VCall.i (fits_c (by omega)) ?_
      repeat' ((conv => whnf); first | refine ngo ?_ | refine VB.tt ?_ | refine VB.ff ?_ | refine VNew.keep ?_ | refine dgo ?_ | refine sgo ?_ | fail)
      conv => whnf
      rw [← hp', addN, addE]
      repeat' (first | exact fz_nil0 | exact Fz.nsl | exact Fz.same rfl (by repeat' (first | exact trivial | exact low_natL 0 _ | exact low_limbs 0 _ | refine And.intro ?_ ?_ | fail)) | refine Fz.tup ?_ | refine FzL.cons ?_ ?_ | exact FzL.nil | fail)
    · have hz : m / 2 ≠ 0 := by omega
      have hpq := product_n (a := q) (b := q) (by omega) (by omega)
      have hge : o ≠ 0 → q * q ≤ val a ^ n := fun h => pow_ge hp' (by omega) h
      generalize q * q = s at *
      repeat' ((conv => whnf); first | refine ngo ?_ | refine VB.tt ?_ | refine VB.ff ?_ | refine VNew.keep ?_ | refine dgo ?_ | refine sgo ?_ | fail)
      conv => whnf
      refine VCall.i (hpq) ?_
      repeat' ((conv => whnf); first | refine ngo ?_ | refine VB.tt ?_ | refine VB.ff ?_ | refine VNew.keep ?_ | refine dgo ?_ | refine sgo ?_ | fail)
      conv => whnf
      refine VB.dec (fun hl => ?_) (fun hl => ?_)
      · have hs0 : s ≠ 0 := by rintro rfl; rw [dg_zero] at hl; exact absurd hl (by decide)
        have ho0 : o ≠ 0 := fun e => hs0 (hoq' e)
        have := dg_length_mono (hge ho0)
        repeat' ((conv => whnf); first | refine ngo ?_ | refine VB.tt ?_ | refine VB.ff ?_ | refine VNew.keep ?_ | refine dgo ?_ | refine sgo ?_ | fail)
        conv => whnf
        rw [addN, addE, if_pos (by omega), if_pos (by omega)]
        repeat' (first | exact fz_nil0 | exact Fz.nsl | exact Fz.same rfl (by repeat' (first | exact trivial | exact low_natL 0 _ | exact low_limbs 0 _ | refine And.intro ?_ ?_ | fail)) | refine Fz.tup ?_ | refine FzL.cons ?_ ?_ | exact FzL.nil | fail)
      · repeat' ((conv => whnf); first | refine ngo ?_ | refine VB.tt ?_ | refine VB.ff ?_ | refine VNew.keep ?_ | refine dgo ?_ | refine sgo ?_ | fail)
        conv => whnf
        refine ⟨(m / 2, o, s, t + 1), ⟨by dsimp only; omega, hp', by dsimp only; omega, hol', .inr (by dsimp only; omega), hm2, hoq'⟩, by dsimp only; rw [if_neg (by omega)]; split <;> omega, [], by simp, by simp, ⟨⟨_, rfl, .gone⟩, trivial⟩, FzFr.sub ⟨trivial, low_natL _ _, low_natL _ _, trivial⟩ ⟨by simp only [lk]; rw [← hfd]; rfl, rfl, rfl, trivial⟩, rfl, by simp⟩
end Go.Proofs.YtcdnonggajoghaaDoor


/- Contracts: digits and order of the document. -/
namespace Go.Proofs.YtcdnonggajoghaaDoor
open Go Go.RowKit
set_option linter.unusedVariables false
set_option linter.unusedSimpArgs false
set_option maxRecDepth 100000

theorem ndigits_c (l : List Nat) (ll : l.length < 1000000000000000000) : VCall EE 18 [natL l] [] fun v H => v = digR l := by
  refine VCall.of_body true Tryd.func18 rfl (by decide) rfl ?_
  repeat' ((conv => whnf); first | refine ngo ?_ | refine VB.tt ?_ | refine VB.ff ?_ | refine VNew.keep ?_ | refine dgo ?_ | refine sgo ?_ | fail)
  conv => whnf
  refine VCall.s (check_c l ll) ?_
  repeat' ((conv => whnf); first | refine ngo ?_ | refine VB.tt ?_ | refine VB.ff ?_ | refine VNew.keep ?_ | refine dgo ?_ | refine sgo ?_ | fail)
  conv => whnf
  refine VB.ne (fun h => ?_) (fun h => ?_)
  · repeat' ((conv => whnf); first | refine ngo ?_ | refine VB.tt ?_ | refine VB.ff ?_ | refine VNew.keep ?_ | refine dgo ?_ | refine sgo ?_ | fail)
    conv => whnf
    rw [digR, if_neg h]
  · obtain ⟨hc, h1⟩ := chk_zero h
    repeat' ((conv => whnf); first | refine ngo ?_ | refine VB.tt ?_ | refine VB.ff ?_ | refine VNew.keep ?_ | refine dgo ?_ | refine sgo ?_ | fail)
    conv => whnf
    refine VCall.s (digits_c hc h1) ?_
    repeat' ((conv => whnf); first | refine ngo ?_ | refine VB.tt ?_ | refine VB.ff ?_ | refine VNew.keep ?_ | refine dgo ?_ | refine sgo ?_ | fail)
    conv => whnf
    rw [digR, if_pos h]

theorem rcmp_c (a b : List Nat) (la : a.length < 1000000000000000000) (lb : b.length < 1000000000000000000) : VCall EE 17 [natL a, natL b] [] fun v H => v = .tup [.int .i64 (if both2 a b = 0 then cmpN (val a) (val b) else 0), .int .i64 (both2 a b)] := by
  refine VCall.of_body true Tryd.func17 rfl (by decide) rfl ?_
  repeat' ((conv => whnf); first | refine ngo ?_ | refine VB.tt ?_ | refine VB.ff ?_ | refine VNew.keep ?_ | refine dgo ?_ | refine sgo ?_ | fail)
  conv => whnf
  refine VCall.s (rboth_c a b la lb) ?_
  repeat' ((conv => whnf); first | refine ngo ?_ | refine VB.tt ?_ | refine VB.ff ?_ | refine VNew.keep ?_ | refine dgo ?_ | refine sgo ?_ | fail)
  conv => whnf
  refine VB.ne (fun h => ?_) (fun h => ?_)
  · repeat' ((conv => whnf); first | refine ngo ?_ | refine VB.tt ?_ | refine VB.ff ?_ | refine VNew.keep ?_ | refine dgo ?_ | refine sgo ?_ | fail)
    conv => whnf
    rw [if_neg h]
  · obtain ⟨h1, h2⟩ := both2_zero h
    obtain ⟨ca, la⟩ := chk_zero h1
    obtain ⟨cb, lb⟩ := chk_zero h2
    repeat' ((conv => whnf); first | refine ngo ?_ | refine VB.tt ?_ | refine VB.ff ?_ | refine VNew.keep ?_ | refine dgo ?_ | refine sgo ?_ | fail)
    conv => whnf
    refine VCall.s (rorder_c ca cb (by omega) (by omega)) ?_
    repeat' ((conv => whnf); first | refine ngo ?_ | refine VB.tt ?_ | refine VB.ff ?_ | refine VNew.keep ?_ | refine dgo ?_ | refine sgo ?_ | fail)
    conv => whnf
    rw [if_pos h, h]
end Go.Proofs.YtcdnonggajoghaaDoor


/- Contracts: the law NatCalls. -/
namespace Go.Proofs.YtcdnonggajoghaaDoor
open Go Go.RowKit
set_option linter.unusedVariables false
set_option linter.unusedSimpArgs false
set_option maxRecDepth 100000

theorem intR_ex (l : List Nat) : ∃ i e : Int, intR l = .tup [.int .i64 i, .int .i64 e] := by
  unfold intR
  split
  · split
    · exact ⟨_, _, rfl⟩
    · exact ⟨_, _, rfl⟩
  · exact ⟨_, _, rfl⟩
theorem digR_ex (l : List Nat) : ∃ i e : Int, digR l = .tup [.int .i64 i, .int .i64 e] := by
  unfold digR
  split
  · exact ⟨_, _, rfl⟩
  · exact ⟨_, _, rfl⟩

set_option maxHeartbeats 2000000 in
theorem natcalls_c (a b : List Nat) (n : Int) (n1 : -9223372036854775808 ≤ n) (n2 : n < 9223372036854775808) : VCall EE 3 [natL a, natL b, .int .i64 n] [] fun v H => v = .bool true := by
  refine VCall.of_body true Tryd.func3 rfl (by decide) rfl ?_
  repeat' ((conv => whnf); first | refine ngo ?_ | refine VB.tt ?_ | refine VB.ff ?_ | refine VNew.keep ?_ | refine dgo ?_ | refine sgo ?_ | (with_reducible apply VB.id; rw [bneI]) | (with_reducible apply VB.id; rw [beqI]) | (with_reducible apply VB.dt; focus omega) | (with_reducible apply VB.df; focus omega) | (with_reducible apply VB.et; focus omega) | (with_reducible apply VB.ef; focus omega) | (with_reducible apply VB.nt; focus omega) | (with_reducible apply VB.nf; focus omega) | fail)
  conv => whnf
  refine VCall.s (long_c a 60) ?_
  repeat' ((conv => whnf); first | refine ngo ?_ | refine VB.tt ?_ | refine VB.ff ?_ | refine VNew.keep ?_ | refine dgo ?_ | refine sgo ?_ | (with_reducible apply VB.id; rw [bneI]) | (with_reducible apply VB.id; rw [beqI]) | (with_reducible apply VB.dt; focus omega) | (with_reducible apply VB.df; focus omega) | (with_reducible apply VB.et; focus omega) | (with_reducible apply VB.ef; focus omega) | (with_reducible apply VB.nt; focus omega) | (with_reducible apply VB.nf; focus omega) | fail)
  conv => whnf
  by_cases h1 : (60 < a.length ∧ a.length ≤ 1024) ∨ 1100 < a.length
  · rw [decide_eq_true h1]
    repeat' ((conv => whnf); first | refine ngo ?_ | refine VB.tt ?_ | refine VB.ff ?_ | refine VNew.keep ?_ | refine dgo ?_ | refine sgo ?_ | (with_reducible apply VB.id; rw [bneI]) | (with_reducible apply VB.id; rw [beqI]) | (with_reducible apply VB.dt; focus omega) | (with_reducible apply VB.df; focus omega) | (with_reducible apply VB.et; focus omega) | (with_reducible apply VB.ef; focus omega) | (with_reducible apply VB.nt; focus omega) | (with_reducible apply VB.nf; focus omega) | fail)
    conv => whnf
    refine VCall.s (awake_c) ?_
    repeat' ((conv => whnf); first | refine ngo ?_ | refine VB.tt ?_ | refine VB.ff ?_ | refine VNew.keep ?_ | refine dgo ?_ | refine sgo ?_ | (with_reducible apply VB.id; rw [bneI]) | (with_reducible apply VB.id; rw [beqI]) | (with_reducible apply VB.dt; focus omega) | (with_reducible apply VB.df; focus omega) | (with_reducible apply VB.et; focus omega) | (with_reducible apply VB.ef; focus omega) | (with_reducible apply VB.nt; focus omega) | (with_reducible apply VB.nf; focus omega) | fail)
    conv => whnf
  rw [decide_eq_false h1]
  repeat' ((conv => whnf); first | refine ngo ?_ | refine VB.tt ?_ | refine VB.ff ?_ | refine VNew.keep ?_ | refine dgo ?_ | refine sgo ?_ | (with_reducible apply VB.id; rw [bneI]) | (with_reducible apply VB.id; rw [beqI]) | (with_reducible apply VB.dt; focus omega) | (with_reducible apply VB.df; focus omega) | (with_reducible apply VB.et; focus omega) | (with_reducible apply VB.ef; focus omega) | (with_reducible apply VB.nt; focus omega) | (with_reducible apply VB.nf; focus omega) | fail)
  conv => whnf
  refine VCall.s (long_c b 60) ?_
  repeat' ((conv => whnf); first | refine ngo ?_ | refine VB.tt ?_ | refine VB.ff ?_ | refine VNew.keep ?_ | refine dgo ?_ | refine sgo ?_ | (with_reducible apply VB.id; rw [bneI]) | (with_reducible apply VB.id; rw [beqI]) | (with_reducible apply VB.dt; focus omega) | (with_reducible apply VB.df; focus omega) | (with_reducible apply VB.et; focus omega) | (with_reducible apply VB.ef; focus omega) | (with_reducible apply VB.nt; focus omega) | (with_reducible apply VB.nf; focus omega) | fail)
  conv => whnf
  refine VB.dec (fun h2 => ?_) (fun h2 => ?_)
  · repeat' ((conv => whnf); first | refine ngo ?_ | refine VB.tt ?_ | refine VB.ff ?_ | refine VNew.keep ?_ | refine dgo ?_ | refine sgo ?_ | (with_reducible apply VB.id; rw [bneI]) | (with_reducible apply VB.id; rw [beqI]) | (with_reducible apply VB.dt; focus omega) | (with_reducible apply VB.df; focus omega) | (with_reducible apply VB.et; focus omega) | (with_reducible apply VB.ef; focus omega) | (with_reducible apply VB.nt; focus omega) | (with_reducible apply VB.nf; focus omega) | fail)
    conv => whnf
    refine VCall.s (awake_c) ?_
    repeat' ((conv => whnf); first | refine ngo ?_ | refine VB.tt ?_ | refine VB.ff ?_ | refine VNew.keep ?_ | refine dgo ?_ | refine sgo ?_ | (with_reducible apply VB.id; rw [bneI]) | (with_reducible apply VB.id; rw [beqI]) | (with_reducible apply VB.dt; focus omega) | (with_reducible apply VB.df; focus omega) | (with_reducible apply VB.et; focus omega) | (with_reducible apply VB.ef; focus omega) | (with_reducible apply VB.nt; focus omega) | (with_reducible apply VB.nf; focus omega) | fail)
    conv => whnf
  have la : a.length ≤ 1100 := by omega
  have lb : b.length ≤ 1100 := by omega
  have hl : (dg n.toNat).length < 1000000 := by
    have : (dg n.toNat).length ≤ 3 := length_dg_lt (Nat.lt_of_lt_of_le (show n.toNat < 9223372036854775808 by omega) (by decide))
    omega
  repeat' ((conv => whnf); first | refine ngo ?_ | refine VB.tt ?_ | refine VB.ff ?_ | refine VNew.keep ?_ | refine dgo ?_ | refine sgo ?_ | (with_reducible apply VB.id; rw [bneI]) | (with_reducible apply VB.id; rw [beqI]) | (with_reducible apply VB.dt; focus omega) | (with_reducible apply VB.df; focus omega) | (with_reducible apply VB.et; focus omega) | (with_reducible apply VB.ef; focus omega) | (with_reducible apply VB.nt; focus omega) | (with_reducible apply VB.nf; focus omega) | fail)
  conv => whnf
  refine VCall.i (nof_c n n1 n2) ?_
  repeat' ((conv => whnf); first | refine ngo ?_ | refine VB.tt ?_ | refine VB.ff ?_ | refine VNew.keep ?_ | refine dgo ?_ | refine sgo ?_ | (with_reducible apply VB.id; rw [bneI]) | (with_reducible apply VB.id; rw [beqI]) | (with_reducible apply VB.dt; focus omega) | (with_reducible apply VB.df; focus omega) | (with_reducible apply VB.et; focus omega) | (with_reducible apply VB.ef; focus omega) | (with_reducible apply VB.nt; focus omega) | (with_reducible apply VB.nf; focus omega) | fail)
  conv => whnf
  refine VCall.i (rof_c n n1 n2) ?_
  repeat' ((conv => whnf); first | refine ngo ?_ | refine VB.tt ?_ | refine VB.ff ?_ | refine VNew.keep ?_ | refine dgo ?_ | refine sgo ?_ | (with_reducible apply VB.id; rw [bneI]) | (with_reducible apply VB.id; rw [beqI]) | (with_reducible apply VB.dt; focus omega) | (with_reducible apply VB.df; focus omega) | (with_reducible apply VB.et; focus omega) | (with_reducible apply VB.ef; focus omega) | (with_reducible apply VB.nt; focus omega) | (with_reducible apply VB.nf; focus omega) | fail)
  conv => whnf
  refine VCall.s (alike_same (dg n.toNat) (by omega)) ?_
  repeat' ((conv => whnf); first | refine ngo ?_ | refine VB.tt ?_ | refine VB.ff ?_ | refine VNew.keep ?_ | refine dgo ?_ | refine sgo ?_ | (with_reducible apply VB.id; rw [bneI]) | (with_reducible apply VB.id; rw [beqI]) | (with_reducible apply VB.dt; focus omega) | (with_reducible apply VB.df; focus omega) | (with_reducible apply VB.et; focus omega) | (with_reducible apply VB.ef; focus omega) | (with_reducible apply VB.nt; focus omega) | (with_reducible apply VB.nf; focus omega) | fail)
  conv => whnf
  refine VCall.s (check_c a (by omega)) ?_
  repeat' ((conv => whnf); first | refine ngo ?_ | refine VB.tt ?_ | refine VB.ff ?_ | refine VNew.keep ?_ | refine dgo ?_ | refine sgo ?_ | (with_reducible apply VB.id; rw [bneI]) | (with_reducible apply VB.id; rw [beqI]) | (with_reducible apply VB.dt; focus omega) | (with_reducible apply VB.df; focus omega) | (with_reducible apply VB.et; focus omega) | (with_reducible apply VB.ef; focus omega) | (with_reducible apply VB.nt; focus omega) | (with_reducible apply VB.nf; focus omega) | fail)
  conv => whnf
  refine VCall.s (rcheck_c a (by omega)) ?_
  repeat' ((conv => whnf); first | refine ngo ?_ | refine VB.tt ?_ | refine VB.ff ?_ | refine VNew.keep ?_ | refine dgo ?_ | refine sgo ?_ | (with_reducible apply VB.id; rw [bneI]) | (with_reducible apply VB.id; rw [beqI]) | (with_reducible apply VB.dt; focus omega) | (with_reducible apply VB.df; focus omega) | (with_reducible apply VB.et; focus omega) | (with_reducible apply VB.ef; focus omega) | (with_reducible apply VB.nt; focus omega) | (with_reducible apply VB.nf; focus omega) | fail)
  conv => whnf
  obtain ⟨i, e, hi⟩ := intR_ex a
  obtain ⟨d, g, hd⟩ := digR_ex a
  have g1 := nint_c a (by omega)
  have g2 := rint_c a (by omega)
  have g3 := ndigits_c a (by omega)
  have g4 := rdigits_c a (by omega)
  rw [hi] at g1 g2
  rw [hd] at g3 g4
  repeat' ((conv => whnf); first | refine ngo ?_ | refine VB.tt ?_ | refine VB.ff ?_ | refine VNew.keep ?_ | refine dgo ?_ | refine sgo ?_ | (with_reducible apply VB.id; rw [bneI]) | (with_reducible apply VB.id; rw [beqI]) | (with_reducible apply VB.dt; focus omega) | (with_reducible apply VB.df; focus omega) | (with_reducible apply VB.et; focus omega) | (with_reducible apply VB.ef; focus omega) | (with_reducible apply VB.nt; focus omega) | (with_reducible apply VB.nf; focus omega) | fail)
  conv => whnf
  refine VCall.s (g1) ?_
  repeat' ((conv => whnf); first | refine ngo ?_ | refine VB.tt ?_ | refine VB.ff ?_ | refine VNew.keep ?_ | refine dgo ?_ | refine sgo ?_ | (with_reducible apply VB.id; rw [bneI]) | (with_reducible apply VB.id; rw [beqI]) | (with_reducible apply VB.dt; focus omega) | (with_reducible apply VB.df; focus omega) | (with_reducible apply VB.et; focus omega) | (with_reducible apply VB.ef; focus omega) | (with_reducible apply VB.nt; focus omega) | (with_reducible apply VB.nf; focus omega) | fail)
  conv => whnf
  refine VCall.s (g2) ?_
  repeat' ((conv => whnf); first | refine ngo ?_ | refine VB.tt ?_ | refine VB.ff ?_ | refine VNew.keep ?_ | refine dgo ?_ | refine sgo ?_ | (with_reducible apply VB.id; rw [bneI]) | (with_reducible apply VB.id; rw [beqI]) | (with_reducible apply VB.dt; focus omega) | (with_reducible apply VB.df; focus omega) | (with_reducible apply VB.et; focus omega) | (with_reducible apply VB.ef; focus omega) | (with_reducible apply VB.nt; focus omega) | (with_reducible apply VB.nf; focus omega) | fail)
  conv => whnf
  refine VCall.s (ncmp_c a b (by omega) (by omega)) ?_
  repeat' ((conv => whnf); first | refine ngo ?_ | refine VB.tt ?_ | refine VB.ff ?_ | refine VNew.keep ?_ | refine dgo ?_ | refine sgo ?_ | (with_reducible apply VB.id; rw [bneI]) | (with_reducible apply VB.id; rw [beqI]) | (with_reducible apply VB.dt; focus omega) | (with_reducible apply VB.df; focus omega) | (with_reducible apply VB.et; focus omega) | (with_reducible apply VB.ef; focus omega) | (with_reducible apply VB.nt; focus omega) | (with_reducible apply VB.nf; focus omega) | fail)
  conv => whnf
  refine VCall.s (rcmp_c a b (by omega) (by omega)) ?_
  repeat' ((conv => whnf); first | refine ngo ?_ | refine VB.tt ?_ | refine VB.ff ?_ | refine VNew.keep ?_ | refine dgo ?_ | refine sgo ?_ | (with_reducible apply VB.id; rw [bneI]) | (with_reducible apply VB.id; rw [beqI]) | (with_reducible apply VB.dt; focus omega) | (with_reducible apply VB.df; focus omega) | (with_reducible apply VB.et; focus omega) | (with_reducible apply VB.ef; focus omega) | (with_reducible apply VB.nt; focus omega) | (with_reducible apply VB.nf; focus omega) | fail)
  conv => whnf
  refine VCall.s (g3) ?_
  repeat' ((conv => whnf); first | refine ngo ?_ | refine VB.tt ?_ | refine VB.ff ?_ | refine VNew.keep ?_ | refine dgo ?_ | refine sgo ?_ | (with_reducible apply VB.id; rw [bneI]) | (with_reducible apply VB.id; rw [beqI]) | (with_reducible apply VB.dt; focus omega) | (with_reducible apply VB.df; focus omega) | (with_reducible apply VB.et; focus omega) | (with_reducible apply VB.ef; focus omega) | (with_reducible apply VB.nt; focus omega) | (with_reducible apply VB.nf; focus omega) | fail)
  conv => whnf
  refine VCall.s (g4) ?_
  repeat' ((conv => whnf); first | refine VB.tt ?_ | refine VB.ff ?_ | refine VNew.keep ?_ | refine dgo ?_ | refine sgo ?_ | fail)
  conv => whnf
  generalize (if both2 a b = 0 then cmpN (val a) (val b) else 0) = c at *
  generalize (if n < 0 then (2 : Int) else 0) = f at *
  generalize both2 a b = j at *
  refine VNext.at_ true ⟨[(8, .int .i64 e), (10, .int .i64 e), (11, .int .i64 i), (12, .int .i64 i), (13, .int .i64 c), (14, .int .i64 j), (15, .int .i64 c), (16, .int .i64 j), (17, .int .i64 d), (18, .int .i64 g), (19, .int .i64 d), (20, .int .i64 g)], [], []⟩ ⟨by (repeat' first | exact trivial | exact And.intro (by first | rfl | (simp [lk]; done)) trivial | refine And.intro (by first | rfl | (simp [lk]; done)) ?_), rfl, rfl⟩ ?_
  repeat' ((conv => whnf); first | refine ngo ?_ | refine VB.tt ?_ | refine VB.ff ?_ | refine VNew.keep ?_ | refine dgo ?_ | refine sgo ?_ | (with_reducible apply VB.id; rw [bneI]) | (with_reducible apply VB.id; rw [beqI]) | (with_reducible apply VB.dt; focus omega) | (with_reducible apply VB.df; focus omega) | (with_reducible apply VB.et; focus omega) | (with_reducible apply VB.ef; focus omega) | (with_reducible apply VB.nt; focus omega) | (with_reducible apply VB.nf; focus omega) | fail)
  conv => whnf
  refine VCall.s (awake_c) ?_
  repeat' ((conv => whnf); first | refine ngo ?_ | refine VB.tt ?_ | refine VB.ff ?_ | refine VNew.keep ?_ | refine dgo ?_ | refine sgo ?_ | (with_reducible apply VB.id; rw [bneI]) | (with_reducible apply VB.id; rw [beqI]) | (with_reducible apply VB.dt; focus omega) | (with_reducible apply VB.df; focus omega) | (with_reducible apply VB.et; focus omega) | (with_reducible apply VB.ef; focus omega) | (with_reducible apply VB.nt; focus omega) | (with_reducible apply VB.nf; focus omega) | fail)
  conv => whnf
end Go.Proofs.YtcdnonggajoghaaDoor


/- Contracts: the reference's sums and powers; the law of sums. -/
namespace Go.Proofs.YtcdnonggajoghaaDoor
open Go Go.RowKit
set_option linter.unusedVariables false
set_option linter.unusedSimpArgs false
set_option maxRecDepth 100000

theorem canon_push {l : List Nat} {r : Nat} (h : okL l) (hr : r < BB) (h0 : r ≠ 0) : canon (l ++ [r]) :=
  ⟨okL_append.2 ⟨h, by intro z hz; rw [List.mem_singleton.1 hz]; exact hr⟩, fun x hx => by simp at hx; omega⟩
theorem top_ne {a : List Nat} (ha : canon a) {i : Nat} (h : i + 1 = a.length) : a.getD i 0 ≠ 0 := ha.2 _ (by rw [List.getLast?_eq_getElem?, List.getD_eq_getElem?_getD, show a.length - 1 = i by omega, List.getElem?_eq_getElem (by omega)]; rfl)

def sndC (c : Code) : Code := match c with
  | .seq _ y => y
  | c => c
def pSt (a b : List Nat) (i : Nat) (l : List Nat) (c : Nat) : St := ⟨[(0, natL a), (1, natL b), (5, accV l), (6, .int .u32 c), (7, .int .i64 i)], accH 30 l, []⟩

end Go.Proofs.YtcdnonggajoghaaDoor


/- The law of sums, differences, products and powers. -/
namespace Go.Proofs.YtcdnonggajoghaaDoor
open Go Go.RowKit
set_option linter.unusedVariables false
set_option linter.unusedSimpArgs false
set_option maxRecDepth 100000

theorem addN_len (n : Nat) : (dg (addN n)).length ≤ 1024 := by
  unfold addN
  split
  · rw [dg_zero]; decide
  · omega
theorem mulN_len (a b : Nat) : (dg (mulN a b)).length ≤ 1024 := addN_len (a * b)
theorem powN_len (a : List Nat) (n : Int) : (dg (powN a n)).length ≤ 1024 := by
  unfold powN
  split
  · exact addN_len _
  · rw [dg_zero]; decide

theorem mod_len (a b : Nat) (h : b ≤ a) : (dg (a - b)).length ≤ (dg a).length := dg_length_mono (Nat.sub_le _ _)
end Go.Proofs.YtcdnonggajoghaaDoor


/- Contracts of the document's calls at numbers; lists that numbers select. -/
namespace Go.Proofs.YtcdnonggajoghaaDoor
open Go Go.RowKit
set_option linter.unusedVariables false
set_option linter.unusedSimpArgs false
set_option maxRecDepth 100000

theorem VCall.conv {E : Env} {g : FuncId} {args args' : List AV} {H : Heap} {Q : AV → Heap → Prop} (h : VCall E g args' H Q) (hA : ∀ K vs, VRL K args vs → VRL K args' vs) : VCall E g args H Q :=
  ⟨h.ok, fun K cargs w hH hv => h.call K cargs w hH (hA K cargs hv)⟩

theorem both2_dg {a b : Nat} (la : (dg a).length ≤ 1024) (lb : (dg b).length ≤ 1024) : both2 (dg a) (dg b) = 0 := by
  rw [both2, if_pos (chk_dg la), chk_dg lb]
theorem addN_eq {n : Nat} (h : (dg n).length ≤ 1024) : addN n = n := by rw [addN, if_neg (by omega)]
theorem addE_eq {n : Nat} (h : (dg n).length ≤ 1024) : addE n = 0 := by rw [addE, if_neg (by omega)]

theorem ndiv_n {a b : Nat} (la : (dg a).length ≤ 1024) (lb : (dg b).length ≤ 1024) (hb : b ≠ 0) : VCall EE 32 [natv a, natv b] [] fun v H => Fz H 0 [] v (.tup [natv (a / b), natv (a % b), .int .i64 0]) := by
  have h := ndiv_c (dg a) (dg b) (by omega) (by omega)
  rw [divR, if_pos (both2_dg la lb), val_dg, val_dg, if_neg hb] at h
  exact h
theorem ngcd_n {a b : Nat} (la : (dg a).length ≤ 1024) (lb : (dg b).length ≤ 1024) : VCall EE 23 [natv a, natv b] [] fun v H => Fz H 0 [] v (.tup [natv (Nat.gcd a b), .int .i64 0]) := by
  have h := ngcd_c (dg a) (dg b) (by omega) (by omega)
  rw [res2, if_pos (both2_dg la lb), if_pos (both2_dg la lb), val_dg, val_dg] at h
  exact h
theorem nlcm_n {a b : Nat} (la : (dg a).length ≤ 500) (lb : (dg b).length ≤ 500) : VCall EE 24 [natv a, natv b] [] fun v H => Fz H 0 [] v (.tup [natv (Nat.lcm a b), .int .i64 0]) := by
  have h := nlcm_c (dg a) (dg b) (by omega) (by omega)
  have hl : (dg (Nat.lcm a b)).length ≤ 1000 := by
    have h1 := dg_length_mono (Nat.mul_le_mul_right b (Nat.div_le_self a (Nat.gcd a b)))
    have h2 := dg_mul_le a b
    rw [lcm_alt]
    omega
  rw [res2, if_pos (both2_dg (by omega) (by omega)), if_pos (both2_dg (by omega) (by omega)), val_dg, val_dg, lcmN, lcmE, if_neg (by omega), if_neg (by omega)] at h
  exact h
theorem ncmp_n {a b : Nat} (la : (dg a).length ≤ 1024) (lb : (dg b).length ≤ 1024) : VCall EE 16 [natv a, natv b] [] fun v H => v = .tup [.int .i64 (cmpN a b), .int .i64 0] := by
  have h := ncmp_c (dg a) (dg b) (by omega) (by omega)
  rw [both2_dg la lb, if_pos rfl, val_dg, val_dg] at h
  exact h
theorem nsub_n {a b : Nat} (la : (dg a).length ≤ 1024) (h0 : b ≤ a) : VCall EE 21 [natv a, natv b] [] fun v H => Fz H 0 [] v (.tup [natv (a - b), .int .i64 0]) := by
  have hl := dg_length_mono h0
  have h := nsub_c (dg a) (dg b) (by omega) (by omega)
  rw [res2, if_pos (both2_dg la (by omega)), if_pos (both2_dg la (by omega)), val_dg, val_dg, subE, if_neg (by omega)] at h
  exact h
theorem npow_n {a n : Nat} (la : (dg a).length ≤ 1024) (hn : n ≤ 10000) (hl : (dg (a ^ n)).length ≤ 1024) : VCall EE 25 [natv a, .int .i64 n] [] fun v H => Fz H 0 [] v (.tup [natv (a ^ n), .int .i64 0]) := by
  have h := npow_c (dg a) n (by omega) (by omega) (by omega)
  rw [powN, powE, if_pos ⟨chk_dg la, by omega, by omega⟩, if_pos (chk_dg la), if_pos ⟨by omega, by omega⟩, Int.toNat_natCast, val_dg, addN_eq hl, addE_eq hl] at h
  exact h

/-- The number whose limbs a list selects. -/
def sel (l : List Nat) : Nat := val (l.map (· % BB))
theorem okL_sel (l : List Nat) : okL (l.map (· % BB)) := by
  intro x hx
  obtain ⟨y, _, rfl⟩ := List.mem_map.1 hx
  exact Nat.mod_lt _ (by decide)
theorem sel_len (l : List Nat) : (dg (sel l)).length ≤ l.length := by
  have := dg_length_le (okL_sel l)
  simpa [sel] using this

theorem klimbs_nil : VLoop EE Tryd.f30.ntmps none (nthLoop Tryd.f30 1) (fun e s => e = .exit 2 ∧ ∃ y : Unit, True ∧ Meets ⟨[(3, .nsl)], [], []⟩ s) ⟨[(3, .nsl)], [], []⟩ := by
  refine VLoop.ix true (fun x : Unit => ⟨[(3, .nsl)], [], []⟩) (fun x => True) (fun x => 0) () trivial ⟨⟨rfl, trivial⟩, rfl, rfl⟩ ?_
  rintro x -
  repeat' ((conv => whnf); first | refine ngo ?_ | refine VB.tt ?_ | refine VB.ff ?_ | refine VNew.keep ?_ | refine dgo ?_ | refine sgo ?_ | fail)
  conv => whnf
  exact ⟨(), trivial, ⟨⟨rfl, trivial⟩, rfl, rfl⟩⟩

theorem klimbs_own {ver : Nat} {l : List Nat} (hok : okL l) (hl : l.length < 1000000000) :
    VLoop EE Tryd.f30.ntmps none (nthLoop Tryd.f30 1) (fun e s => e = .exit 2 ∧ ∃ y : Unit, True ∧ Meets ⟨[(3, .osl 0 ver 0 (dg (val l)).length 1)], [.cells ver 30 (limbs l)], []⟩ s)
      ⟨[(3, .osl 0 ver 0 l.length 1)], [.cells ver 30 (limbs l)], []⟩ := by
  refine VLoop.ix true (fun k : Nat => ⟨[(3, .osl 0 ver 0 k 1)], [.cells ver 30 (limbs l)], []⟩) (fun k => k ≤ l.length ∧ val (l.take k) = val l) id l.length ⟨Nat.le_refl _, by rw [List.take_length]⟩ ⟨⟨rfl, trivial⟩, rfl, rfl⟩ ?_
  rintro k ⟨hk, hv⟩
  repeat' ((conv => whnf); first | refine ngo ?_ | refine VB.tt ?_ | refine VB.ff ?_ | refine VNew.keep ?_ | refine dgo ?_ | refine sgo ?_ | fail)
  conv => whnf
  by_cases h0 : (k : Int) > 0
  · rw [decide_eq_true h0]
    obtain ⟨k, rfl⟩ : ∃ j, k = j + 1 := ⟨k - 1, by omega⟩
    have ek : (((k + 1 : Nat) : Int) - 1).toNat = k := by omega
    repeat' ((conv => whnf); first | refine ngo ?_ | refine VB.tt ?_ | refine VB.ff ?_ | refine VNew.keep ?_ | refine dgo ?_ | refine sgo ?_ | fail)
    conv => whnf
    rw [ek, Nat.mul_one, Nat.zero_add, getInt_limbs]
    refine VB.eq (fun h => ?_) (fun h => ?_)
    · repeat' ((conv => whnf); first | refine ngo ?_ | refine VB.tt ?_ | refine VB.ff ?_ | refine VNew.keep ?_ | refine dgo ?_ | refine sgo ?_ | fail)
      conv => whnf
      refine ⟨k, ⟨by omega, ?_⟩, by simp, ⟨⟨by simp only [lk, ek]; rfl, trivial⟩, rfl, rfl⟩⟩
      rw [val_take_succ (by omega)] at hv
      rw [show l.getD k 0 = 0 by omega] at hv
      omega
    · repeat' ((conv => whnf); first | refine ngo ?_ | refine VB.tt ?_ | refine VB.ff ?_ | refine VNew.keep ?_ | refine dgo ?_ | refine sgo ?_ | fail)
      conv => whnf
      rw [dg_length_of hok hk hv (.inr (by rw [Nat.add_sub_cancel]; omega))]
      exact ⟨(), trivial, ⟨⟨rfl, trivial⟩, rfl, rfl⟩⟩
  · rw [decide_eq_false h0]
    have : k = 0 := by omega
    subst this
    repeat' ((conv => whnf); first | refine ngo ?_ | refine VB.tt ?_ | refine VB.ff ?_ | refine VNew.keep ?_ | refine dgo ?_ | refine sgo ?_ | fail)
    conv => whnf
    rw [dg_length_of hok hk hv (.inl rfl)]
    exact ⟨(), trivial, ⟨⟨rfl, trivial⟩, rfl, rfl⟩⟩

theorem klimbs_c (l : List Nat) (ll : l.length < 1000000) : VCall EE 30 [natL l] [] fun v H => Fz H 0 [] v (natv (sel l)) := by
  refine VCall.of_body true Tryd.func30 rfl (by decide) rfl ?_
  repeat' ((conv => whnf); first | refine ngo ?_ | refine VB.tt ?_ | refine VB.ff ?_ | refine VNew.keep ?_ | refine dgo ?_ | refine sgo ?_ | fail)
  conv => whnf
  refine VLoop.tr true (fun x : Nat × List Nat => ⟨[(0, natL l), (3, accV x.2), (4, .int .i64 x.1)], accH 30 x.2, []⟩) (fun x => x.1 ≤ l.length ∧ x.2 = (l.take x.1).map (· % BB)) (fun x => l.length - x.1) (0, []) ⟨Nat.zero_le _, rfl⟩ ⟨⟨rfl, rfl, rfl, trivial⟩, rfl, rfl⟩ ?_
  rintro ⟨i, m⟩ ⟨hi, hm⟩
  dsimp only at hi hm ⊢
  repeat' ((conv => whnf); first | refine ngo ?_ | refine VB.tt ?_ | refine VB.ff ?_ | refine VNew.keep ?_ | refine dgo ?_ | refine sgo ?_ | fail)
  conv => whnf
  refine VB.dec (fun h => ?_) (fun h => ?_)
  · have g1 : getInt (List.drop ((i : Int).toNat * 1) (limbs l)) = ((l.getD i 0 : Nat) : Int) := by rw [Int.toNat_natCast, Nat.mul_one, getInt_limbs]
    have hnew : m ++ [l.getD i 0 % BB] = (l.take (i + 1)).map (· % BB) := by
      have e : l.getD i 0 = l[i]'(by omega) := by simp [List.getD_eq_getElem?_getD, show i < l.length by omega]
      rw [hm, List.take_succ_eq_append_getElem (by omega), List.map_append, e]
      rfl
    have hml : m.length < 1000000 := by rw [hm]; simp; omega
    have g6 := tmod_BB (l.getD i 0)
    generalize l.getD i 0 % BB = r at *
    cases m with
    | nil =>
      repeat' ((conv => whnf); first | refine ngo ?_ | refine VB.tt ?_ | refine VB.ff ?_ | refine VNew.keep ?_ | refine dgo ?_ | refine sgo ?_ | fail)
      conv => whnf
      rw [g1, g6]
      repeat' ((conv => whnf); first | refine ngo ?_ | refine VB.tt ?_ | refine VB.ff ?_ | refine VNew.keep ?_ | refine dgo ?_ | refine sgo ?_ | fail)
      conv => whnf
      refine ⟨(i + 1, [r]), ⟨by dsimp only; omega, hnew⟩, by dsimp only; omega, [1], by simp, by simp, ⟨⟨_, rfl, .cells rfl (FzL.same rfl (low_limbs _ [r]))⟩, trivial⟩, ⟨⟨_, rfl, .same rfl (low_natL _ _)⟩, ⟨_, rfl, .kosl (j := 0) rfl rfl rfl rfl⟩, ⟨_, rfl, .same (by simp) trivial⟩, trivial⟩, rfl, by simp⟩
    | cons z m =>
      simp only [List.length_cons] at hml
      repeat' ((conv => whnf); first | refine ngo ?_ | refine VB.tt ?_ | refine VB.ff ?_ | refine VNew.keep ?_ | refine dgo ?_ | refine sgo ?_ | fail)
      conv => whnf
      rw [g1, g6]
      repeat' ((conv => whnf); first | refine ngo ?_ | refine VB.tt ?_ | refine VB.ff ?_ | refine VNew.keep ?_ | refine dgo ?_ | refine sgo ?_ | fail)
      conv => whnf
      refine ⟨(i + 1, z :: m ++ [r]), ⟨by dsimp only; omega, hnew⟩, by dsimp only; omega, [0], by simp, by simp, ⟨⟨_, rfl, .cells (by simp) (FzL.same ?_ (low_limbs _ (z :: m ++ [r])))⟩, trivial⟩, ⟨⟨_, rfl, .same rfl (low_natL _ _)⟩, ⟨_, rfl, .kosl (j := 0) rfl rfl (by simp) (by simp)⟩, ⟨_, rfl, .same (by simp) trivial⟩, trivial⟩, rfl, by simp⟩
      rw [Nat.mul_one, List.take_of_length_le (by simp [limbs])]
      simp [limbs]
  · have : i = l.length := by omega
    subst this
    rw [List.take_length] at hm
    have hok := okL_sel l
    have hsel : sel l = val m := by rw [hm]; rfl
    rw [← hm] at hok
    have hml : m.length < 1000000 := by rw [hm]; simp; omega
    rw [hsel]
    clear hm hsel
    cases m with
    | nil =>
      repeat' ((conv => whnf); first | refine ngo ?_ | refine VB.tt ?_ | refine VB.ff ?_ | refine VNew.keep ?_ | refine dgo ?_ | refine sgo ?_ | fail)
      conv => whnf
      refine VLoop.use klimbs_nil ⟨⟨rfl, trivial⟩, rfl, rfl⟩ ?_
      rintro - -
      repeat' ((conv => whnf); first | refine ngo ?_ | refine VB.tt ?_ | refine VB.ff ?_ | refine VNew.keep ?_ | refine dgo ?_ | refine sgo ?_ | fail)
      conv => whnf
      exact fz_nil0
    | cons z m =>
      repeat' ((conv => whnf); first | refine ngo ?_ | refine VB.tt ?_ | refine VB.ff ?_ | refine VNew.keep ?_ | refine dgo ?_ | refine sgo ?_ | fail)
      conv => whnf
      refine VLoop.use (klimbs_own (ver := m.length) (l := z :: m) hok (by omega)) ⟨⟨rfl, trivial⟩, rfl, rfl⟩ ?_
      rintro - -
      repeat' ((conv => whnf); first | refine ngo ?_ | refine VB.tt ?_ | refine VB.ff ?_ | refine VNew.keep ?_ | refine dgo ?_ | refine sgo ?_ | fail)
      conv => whnf
      exact .nat (Nat.zero_le _) (by simp) rfl (by rw [Nat.mul_one, limbs_take, take_dg hok]) rfl
end Go.Proofs.YtcdnonggajoghaaDoor


/- Contracts: the law NatKnown. -/
namespace Go.Proofs.YtcdnonggajoghaaDoor
open Go Go.RowKit
set_option linter.unusedVariables false
set_option linter.unusedSimpArgs false
set_option maxRecDepth 100000

theorem is_nil : VCall EE 22 [natv 0, .int .i64 0, .nsl] [] fun v H => v = .bool true := by
  have h := is_same (w := []) (by decide)
  rw [natv_zero]
  refine VCall.conv h fun K vs hv => ?_
  obtain ⟨u0, us, rfl, h0, u1, us1, rfl, h1, u2, us2, rfl, h2, h3⟩ := hv
  exact ⟨_, _, rfl, h0, _, _, rfl, h1, _, _, rfl, ⟨none, 0, h2, Nat.le_refl _, fun hne => absurd rfl hne⟩, h3⟩


set_option maxHeartbeats 8000000 in
theorem natknown_c : VCall EE 4 [] [] fun v H => v = .bool true := by
  refine VCall.of_body true Tryd.func4 rfl (by decide) rfl ?_
  have hof := nof_c 0 (by decide) (by decide)
  rw [if_neg (by decide), Int.toNat_zero] at hof
  have hof2 := nof_c (-1) (by decide) (by decide)
  rw [if_pos (by decide), show (-1 : Int).toNat = 0 from rfl] at hof2
  have hadd := nadd_c [999999999] [1] (by decide) (by decide)
  rw [res2, show both2 [999999999] [1] = 0 by decide, if_pos rfl, if_pos rfl, show val [999999999] + val [1] = 1000000000 by decide, addN, addE, dg_len_of (w := [0, 1]) (by decide) (by decide), if_neg (by decide), if_neg (by decide), natv_lit (w := [0, 1]) (by decide) (by decide)] at hadd
  have hsub := nsub_c [0, 1] [1] (by decide) (by decide)
  rw [res2, show both2 [0, 1] [1] = 0 by decide, if_pos rfl, if_pos rfl, show val [0, 1] - val [1] = 999999999 by decide, subE, if_neg (by decide), natv_lit (w := [999999999]) (by decide) (by decide)] at hsub
  have hgcd := ngcd_c [12] [18] (by decide) (by decide)
  rw [res2, show both2 [12] [18] = 0 by decide, if_pos rfl, if_pos rfl, show Nat.gcd (val [12]) (val [18]) = 6 by decide, natv_lit (w := [6]) (by decide) (by decide)] at hgcd
  have hlcm := nlcm_c [4] [6] (by decide) (by decide)
  rw [res2, show both2 [4] [6] = 0 by decide, if_pos rfl, if_pos rfl, lcmN, lcmE, show Nat.lcm (val [4]) (val [6]) = 12 by decide, dg_len_of (w := [12]) (by decide) (by decide), if_neg (by decide), if_neg (by decide), natv_lit (w := [12]) (by decide) (by decide)] at hlcm
  have hpow := npow_c [10] 9 (by decide) (by decide) (by decide)
  rw [powN, powE, if_pos (by decide), if_pos (by decide), if_pos (by decide), show val [10] ^ (9 : Int).toNat = 1000000000 by decide, addN, addE, dg_len_of (w := [0, 1]) (by decide) (by decide), if_neg (by decide), if_neg (by decide), natv_lit (w := [0, 1]) (by decide) (by decide)] at hpow
  have hdig := ndigits_c [0, 1] (by decide)
  rw [digR, if_pos (by decide), show digN (val [0, 1]) = 10 by rw [digN_pos (by decide)]; exact dec_len (k := 9) (by decide) (by decide)] at hdig
  have hp1 := nparse_c ⟨#[48, 48, 55]⟩ (by decide)
  rw [show parseN (bts ⟨#[48, 48, 55]⟩) = (0, 11, 0) by decide +kernel] at hp1
  have hp2 := nparse_c ⟨#[49, 48, 48, 48, 48, 48, 48, 48, 48, 48]⟩ (by decide)
  rw [show parseN (bts ⟨#[49, 48, 48, 48, 48, 48, 48, 48, 48, 48]⟩) = (1000000000, 0, 0) by decide +kernel, pnV, natv_lit (w := [0, 1]) (by decide) (by decide)] at hp2
  have hp3 := nparse_c ⟨#[49, 50, 97]⟩ (by decide)
  rw [show parseN (bts ⟨#[49, 50, 97]⟩) = (0, 11, 2) by decide +kernel] at hp3
  have hp4 := nparse_c ⟨#[]⟩ (by decide)
  rw [show parseN (bts ⟨#[]⟩) = (0, 11, 0) by decide +kernel] at hp4
  repeat' ((conv => whnf); first | refine ngo ?_ | refine VB.tt ?_ | refine VB.ff ?_ | refine VNew.keep ?_ | refine dgo ?_ | refine sgo ?_ | fail)
  conv => whnf
  refine VCall.i (hof) ?_
  repeat' ((conv => whnf); first | refine ngo ?_ | refine VB.tt ?_ | refine VB.ff ?_ | refine VNew.keep ?_ | refine dgo ?_ | refine sgo ?_ | fail)
  conv => whnf
  refine VCall.i (hof2) ?_
  repeat' ((conv => whnf); first | refine ngo ?_ | refine VB.tt ?_ | refine VB.ff ?_ | refine dgo ?_ | refine sgo ?_ | fail)
  conv => whnf
  refine VNew.dat (cs' := limbs [999999999]) rfl rfl ?_
  repeat' ((conv => whnf); first | refine ngo ?_ | refine VB.tt ?_ | refine VB.ff ?_ | refine dgo ?_ | refine sgo ?_ | fail)
  conv => whnf
  refine VNew.dat (cs' := limbs [1]) rfl rfl ?_
  repeat' ((conv => whnf); first | refine ngo ?_ | refine VB.tt ?_ | refine VB.ff ?_ | refine VNew.keep ?_ | refine dgo ?_ | refine sgo ?_ | fail)
  conv => whnf
  show VCall EE _ [natL [999999999], natL [1]] [.gone, .gone] _
  refine VCall.i (hadd) ?_
  repeat' ((conv => whnf); first | refine ngo ?_ | refine VB.tt ?_ | refine VB.ff ?_ | refine dgo ?_ | refine sgo ?_ | fail)
  conv => whnf
  refine VNew.dat (cs' := limbs [0,1]) rfl rfl ?_
  repeat' ((conv => whnf); first | refine ngo ?_ | refine VB.tt ?_ | refine VB.ff ?_ | refine dgo ?_ | refine sgo ?_ | fail)
  conv => whnf
  refine VNew.dat (cs' := limbs [1]) rfl rfl ?_
  repeat' ((conv => whnf); first | refine ngo ?_ | refine VB.tt ?_ | refine VB.ff ?_ | refine VNew.keep ?_ | refine dgo ?_ | refine sgo ?_ | fail)
  conv => whnf
  show VCall EE _ [natL [0, 1], natL [1]] [.gone, .gone, .gone, .gone] _
  refine VCall.i (hsub) ?_
  repeat' ((conv => whnf); first | refine ngo ?_ | refine VB.tt ?_ | refine VB.ff ?_ | refine VNew.keep ?_ | refine dgo ?_ | refine sgo ?_ | fail)
  conv => whnf
  show VCall EE _ [natv 0, .int .i64 0, .nsl] [.gone, .gone, .gone, .gone] _
  refine VCall.s (is_nil) ?_
  repeat' ((conv => whnf); first | refine ngo ?_ | refine VB.tt ?_ | refine VB.ff ?_ | refine dgo ?_ | refine sgo ?_ | fail)
  conv => whnf
  refine VNew.dat (cs' := limbs [0,1]) rfl rfl ?_
  repeat' ((conv => whnf); first | refine ngo ?_ | refine VB.tt ?_ | refine VB.ff ?_ | refine VNew.keep ?_ | refine dgo ?_ | refine sgo ?_ | fail)
  conv => whnf
  refine VCall.s (is_same (by decide)) ?_
  repeat' ((conv => whnf); first | refine ngo ?_ | refine VB.tt ?_ | refine VB.ff ?_ | refine dgo ?_ | refine sgo ?_ | fail)
  conv => whnf
  refine VNew.dat (cs' := limbs [999999999]) rfl rfl ?_
  repeat' ((conv => whnf); first | refine ngo ?_ | refine VB.tt ?_ | refine VB.ff ?_ | refine VNew.keep ?_ | refine dgo ?_ | refine sgo ?_ | fail)
  conv => whnf
  refine VCall.s (is_same (by decide)) ?_
  repeat' ((conv => whnf); first | refine ngo ?_ | refine VB.tt ?_ | refine VB.ff ?_ | refine dgo ?_ | refine sgo ?_ | fail)
  conv => whnf
  refine VNew.dat (cs' := limbs [12]) rfl rfl ?_
  repeat' ((conv => whnf); first | refine ngo ?_ | refine VB.tt ?_ | refine VB.ff ?_ | refine dgo ?_ | refine sgo ?_ | fail)
  conv => whnf
  refine VNew.dat (cs' := limbs [18]) rfl rfl ?_
  repeat' ((conv => whnf); first | refine ngo ?_ | refine VB.tt ?_ | refine VB.ff ?_ | refine VNew.keep ?_ | refine dgo ?_ | refine sgo ?_ | fail)
  conv => whnf
  show VCall EE _ [natL [12], natL [18]] _ _
  refine VCall.i (hgcd) ?_
  repeat' ((conv => whnf); first | refine ngo ?_ | refine VB.tt ?_ | refine VB.ff ?_ | refine dgo ?_ | refine sgo ?_ | fail)
  conv => whnf
  refine VNew.dat (cs' := limbs [4]) rfl rfl ?_
  repeat' ((conv => whnf); first | refine ngo ?_ | refine VB.tt ?_ | refine VB.ff ?_ | refine dgo ?_ | refine sgo ?_ | fail)
  conv => whnf
  refine VNew.dat (cs' := limbs [6]) rfl rfl ?_
  repeat' ((conv => whnf); first | refine ngo ?_ | refine VB.tt ?_ | refine VB.ff ?_ | refine VNew.keep ?_ | refine dgo ?_ | refine sgo ?_ | fail)
  conv => whnf
  show VCall EE _ [natL [4], natL [6]] _ _
  refine VCall.i (hlcm) ?_
  repeat' ((conv => whnf); first | refine ngo ?_ | refine VB.tt ?_ | refine VB.ff ?_ | refine dgo ?_ | refine sgo ?_ | fail)
  conv => whnf
  refine VNew.dat (cs' := limbs [10]) rfl rfl ?_
  repeat' ((conv => whnf); first | refine ngo ?_ | refine VB.tt ?_ | refine VB.ff ?_ | refine VNew.keep ?_ | refine dgo ?_ | refine sgo ?_ | fail)
  conv => whnf
  show VCall EE _ [natL [10], .int .i64 9] _ _
  refine VCall.i (hpow) ?_
  repeat' ((conv => whnf); first | refine ngo ?_ | refine VB.tt ?_ | refine VB.ff ?_ | refine dgo ?_ | refine sgo ?_ | fail)
  conv => whnf
  refine VNew.dat (cs' := limbs [0, 1]) rfl rfl ?_
  repeat' ((conv => whnf); first | refine ngo ?_ | refine VB.tt ?_ | refine VB.ff ?_ | refine VNew.keep ?_ | refine dgo ?_ | refine sgo ?_ | fail)
  conv => whnf
  show VCall EE _ [natL [0, 1]] _ _
  refine VCall.s (hdig) ?_
  repeat' ((conv => whnf); first | refine ngo ?_ | refine VB.tt ?_ | refine VB.ff ?_ | refine dgo ?_ | refine sgo ?_ | fail)
  conv => whnf
  refine VNew.dat (cs' := limbs [6]) rfl rfl ?_
  repeat' ((conv => whnf); first | refine ngo ?_ | refine VB.tt ?_ | refine VB.ff ?_ | refine VNew.keep ?_ | refine dgo ?_ | refine sgo ?_ | fail)
  conv => whnf
  refine VCall.s (is_same (by decide)) ?_
  repeat' ((conv => whnf); first | refine ngo ?_ | refine VB.tt ?_ | refine VB.ff ?_ | refine dgo ?_ | refine sgo ?_ | fail)
  conv => whnf
  refine VNew.dat (cs' := limbs [12]) rfl rfl ?_
  repeat' ((conv => whnf); first | refine ngo ?_ | refine VB.tt ?_ | refine VB.ff ?_ | refine VNew.keep ?_ | refine dgo ?_ | refine sgo ?_ | fail)
  conv => whnf
  refine VCall.s (is_same (by decide)) ?_
  repeat' ((conv => whnf); first | refine ngo ?_ | refine VB.tt ?_ | refine VB.ff ?_ | refine dgo ?_ | refine sgo ?_ | fail)
  conv => whnf
  refine VNew.dat (cs' := limbs [0,1]) rfl rfl ?_
  repeat' ((conv => whnf); first | refine ngo ?_ | refine VB.tt ?_ | refine VB.ff ?_ | refine VNew.keep ?_ | refine dgo ?_ | refine sgo ?_ | fail)
  conv => whnf
  refine VCall.s (is_same (by decide)) ?_
  repeat' ((conv => whnf); first | refine ngo ?_ | refine VB.tt ?_ | refine VB.ff ?_ | refine VNew.keep ?_ | refine dgo ?_ | refine sgo ?_ | fail)
  conv => whnf
  show VCall EE _ _ (List.replicate 15 .gone) _
  refine VCall.i (hp1) ?_
  repeat' ((conv => whnf); first | refine ngo ?_ | refine VB.tt ?_ | refine VB.ff ?_ | refine VNew.keep ?_ | refine dgo ?_ | refine sgo ?_ | fail)
  conv => whnf
  refine VCall.i (hp2) ?_
  repeat' ((conv => whnf); first | refine ngo ?_ | refine VB.tt ?_ | refine VB.ff ?_ | refine VNew.keep ?_ | refine dgo ?_ | refine sgo ?_ | fail)
  conv => whnf
  refine VCall.i (hp3) ?_
  repeat' ((conv => whnf); first | refine ngo ?_ | refine VB.tt ?_ | refine VB.ff ?_ | refine VNew.keep ?_ | refine dgo ?_ | refine sgo ?_ | fail)
  conv => whnf
  refine VCall.i (hp4) ?_
  repeat' ((conv => whnf); first | refine VB.tt ?_ | refine VB.ff ?_ | refine VNew.keep ?_ | refine dgo ?_ | refine sgo ?_ | fail)
  conv => whnf
  refine ngo ?_
  repeat' ((conv => whnf); first | refine VB.tt ?_ | refine VB.ff ?_ | refine VNew.keep ?_ | refine dgo ?_ | refine sgo ?_ | fail)
  conv => whnf
  refine VNext.at_ true ⟨[(11, .ptr 15 0 0), (12, natL [0, 1]), (13, .ptr 16 0 0), (15, .ptr 17 0 0), (17, .ptr 18 0 0), (18, .ptr 19 0 0)], List.replicate 15 .gone ++ [.cells 0 40 [.int .i64 11, .int .i64 0], .cells 0 40 [.int .i64 0, .int .i64 0], .cells 0 40 [.int .i64 11, .int .i64 2], .cells 0 40 [.int .i64 11, .int .i64 0], .cells 0 40 [.int .i64 11, .int .i64 0]], []⟩ ⟨⟨rfl, rfl, rfl, rfl, rfl, rfl, trivial⟩, rfl, rfl⟩ ?_
  repeat' ((conv => whnf); first | refine ngo ?_ | refine VB.tt ?_ | refine VB.ff ?_ | refine VNew.keep ?_ | refine dgo ?_ | refine sgo ?_ | refine And.intro (Nat.le_of_ble_eq_true rfl) ?_ | (with_reducible apply VB.id; rw [bneI]) | (with_reducible apply VB.id; rw [beqI]) | (with_reducible apply VB.dt; focus omega) | (with_reducible apply VB.df; focus omega) | (with_reducible apply VB.et; focus omega) | (with_reducible apply VB.ef; focus omega) | (with_reducible apply VB.nt; focus omega) | (with_reducible apply VB.nf; focus omega) | fail)
  conv => whnf
  have q1 : abin EE .eql 40 (.tmp 127) (.tmp 128) (.agg [.int .i64 11, .int .i64 0]) (.agg [.int .i64 11, .int .i64 0]) = some (.bool true) := by kernel_rfl
  have q2 : abin EE .eql 40 (.tmp 138) (.tmp 139) (.agg [.int .i64 11, .int .i64 2]) (.agg [.int .i64 11, .int .i64 2]) = some (.bool true) := by kernel_rfl
  have q3 : abin EE .eql 40 (.tmp 143) (.tmp 144) (.agg [.int .i64 11, .int .i64 0]) (.agg [.int .i64 11, .int .i64 0]) = some (.bool true) := by kernel_rfl
  erw [q1]
  repeat' ((conv => whnf); first | refine ngo ?_ | refine VB.tt ?_ | refine VB.ff ?_ | refine dgo ?_ | refine sgo ?_ | refine And.intro (Nat.le_of_ble_eq_true rfl) ?_ | (with_reducible apply VB.id; rw [bneI]) | (with_reducible apply VB.id; rw [beqI]) | (with_reducible apply VB.dt; focus omega) | (with_reducible apply VB.df; focus omega) | (with_reducible apply VB.et; focus omega) | (with_reducible apply VB.ef; focus omega) | (with_reducible apply VB.nt; focus omega) | (with_reducible apply VB.nf; focus omega) | fail)
  conv => whnf
  refine VNew.dat (cs' := limbs [0, 1]) rfl rfl ?_
  repeat' ((conv => whnf); first | refine ngo ?_ | refine VB.tt ?_ | refine VB.ff ?_ | refine VNew.keep ?_ | refine dgo ?_ | refine sgo ?_ | refine And.intro (Nat.le_of_ble_eq_true rfl) ?_ | (with_reducible apply VB.id; rw [bneI]) | (with_reducible apply VB.id; rw [beqI]) | (with_reducible apply VB.dt; focus omega) | (with_reducible apply VB.df; focus omega) | (with_reducible apply VB.et; focus omega) | (with_reducible apply VB.ef; focus omega) | (with_reducible apply VB.nt; focus omega) | (with_reducible apply VB.nf; focus omega) | fail)
  conv => whnf
  show VCall EE _ [natL [0, 1], .int .i64 0, natL [0, 1]] _ _
  refine VCall.s (is_same (by decide)) ?_
  repeat' ((conv => whnf); first | refine ngo ?_ | refine VB.tt ?_ | refine VB.ff ?_ | refine VNew.keep ?_ | refine dgo ?_ | refine sgo ?_ | refine And.intro (Nat.le_of_ble_eq_true rfl) ?_ | (with_reducible apply VB.id; rw [bneI]) | (with_reducible apply VB.id; rw [beqI]) | (with_reducible apply VB.dt; focus omega) | (with_reducible apply VB.df; focus omega) | (with_reducible apply VB.et; focus omega) | (with_reducible apply VB.ef; focus omega) | (with_reducible apply VB.nt; focus omega) | (with_reducible apply VB.nf; focus omega) | fail)
  conv => whnf
  erw [q2]
  repeat' ((conv => whnf); first | refine ngo ?_ | refine VB.tt ?_ | refine VB.ff ?_ | refine VNew.keep ?_ | refine dgo ?_ | refine sgo ?_ | refine And.intro (Nat.le_of_ble_eq_true rfl) ?_ | (with_reducible apply VB.id; rw [bneI]) | (with_reducible apply VB.id; rw [beqI]) | (with_reducible apply VB.dt; focus omega) | (with_reducible apply VB.df; focus omega) | (with_reducible apply VB.et; focus omega) | (with_reducible apply VB.ef; focus omega) | (with_reducible apply VB.nt; focus omega) | (with_reducible apply VB.nf; focus omega) | fail)
  conv => whnf
  erw [q3]
  repeat' ((conv => whnf); first | refine ngo ?_ | refine VB.tt ?_ | refine VB.ff ?_ | refine dgo ?_ | refine sgo ?_ | refine And.intro (Nat.le_of_ble_eq_true rfl) ?_ | (with_reducible apply VB.id; rw [bneI]) | (with_reducible apply VB.id; rw [beqI]) | (with_reducible apply VB.dt; focus omega) | (with_reducible apply VB.df; focus omega) | (with_reducible apply VB.et; focus omega) | (with_reducible apply VB.ef; focus omega) | (with_reducible apply VB.nt; focus omega) | (with_reducible apply VB.nf; focus omega) | fail)
  conv => whnf
  refine VNew.dat (cs' := limbs [1000000000]) rfl rfl ?_
  repeat' ((conv => whnf); first | refine ngo ?_ | refine VB.tt ?_ | refine VB.ff ?_ | refine VNew.keep ?_ | refine dgo ?_ | refine sgo ?_ | refine And.intro (Nat.le_of_ble_eq_true rfl) ?_ | (with_reducible apply VB.id; rw [bneI]) | (with_reducible apply VB.id; rw [beqI]) | (with_reducible apply VB.dt; focus omega) | (with_reducible apply VB.df; focus omega) | (with_reducible apply VB.et; focus omega) | (with_reducible apply VB.ef; focus omega) | (with_reducible apply VB.nt; focus omega) | (with_reducible apply VB.nf; focus omega) | fail)
  conv => whnf
  have hc1 := check_c [1000000000] (by decide)
  rw [show chk [1000000000] = 3 by decide] at hc1
  show VCall EE _ [natL [1000000000]] _ _
  refine VCall.s (hc1) ?_
  repeat' ((conv => whnf); first | refine ngo ?_ | refine VB.tt ?_ | refine VB.ff ?_ | refine dgo ?_ | refine sgo ?_ | refine And.intro (Nat.le_of_ble_eq_true rfl) ?_ | (with_reducible apply VB.id; rw [bneI]) | (with_reducible apply VB.id; rw [beqI]) | (with_reducible apply VB.dt; focus omega) | (with_reducible apply VB.df; focus omega) | (with_reducible apply VB.et; focus omega) | (with_reducible apply VB.ef; focus omega) | (with_reducible apply VB.nt; focus omega) | (with_reducible apply VB.nf; focus omega) | fail)
  conv => whnf
  refine VNew.dat (cs' := limbs [1, 0]) rfl rfl ?_
  repeat' ((conv => whnf); first | refine ngo ?_ | refine VB.tt ?_ | refine VB.ff ?_ | refine VNew.keep ?_ | refine dgo ?_ | refine sgo ?_ | refine And.intro (Nat.le_of_ble_eq_true rfl) ?_ | (with_reducible apply VB.id; rw [bneI]) | (with_reducible apply VB.id; rw [beqI]) | (with_reducible apply VB.dt; focus omega) | (with_reducible apply VB.df; focus omega) | (with_reducible apply VB.et; focus omega) | (with_reducible apply VB.ef; focus omega) | (with_reducible apply VB.nt; focus omega) | (with_reducible apply VB.nf; focus omega) | fail)
  conv => whnf
  have hc2 := check_c [1, 0] (by decide)
  rw [show chk [1, 0] = 3 by decide] at hc2
  show VCall EE _ [natL [1, 0]] _ _
  refine VCall.s (hc2) ?_
  repeat' ((conv => whnf); first | refine ngo ?_ | refine VB.tt ?_ | refine VB.ff ?_ | refine VNew.keep ?_ | refine dgo ?_ | refine sgo ?_ | refine And.intro (Nat.le_of_ble_eq_true rfl) ?_ | (with_reducible apply VB.id; rw [bneI]) | (with_reducible apply VB.id; rw [beqI]) | (with_reducible apply VB.dt; focus omega) | (with_reducible apply VB.df; focus omega) | (with_reducible apply VB.et; focus omega) | (with_reducible apply VB.ef; focus omega) | (with_reducible apply VB.nt; focus omega) | (with_reducible apply VB.nf; focus omega) | fail)
  conv => whnf
  refine VCall.s (awake_c) ?_
  repeat' ((conv => whnf); first | refine ngo ?_ | refine VB.tt ?_ | refine VB.ff ?_ | refine VNew.keep ?_ | refine dgo ?_ | refine sgo ?_ | refine And.intro (Nat.le_of_ble_eq_true rfl) ?_ | (with_reducible apply VB.id; rw [bneI]) | (with_reducible apply VB.id; rw [beqI]) | (with_reducible apply VB.dt; focus omega) | (with_reducible apply VB.df; focus omega) | (with_reducible apply VB.et; focus omega) | (with_reducible apply VB.ef; focus omega) | (with_reducible apply VB.nt; focus omega) | (with_reducible apply VB.nf; focus omega) | fail)
  conv => whnf
end Go.Proofs.YtcdnonggajoghaaDoor

/- From a law's contract to the machine's call. -/
namespace Go.Proofs.YtcdnonggajoghaaDoor
open Go Go.RowKit
set_option linter.unusedVariables false
set_option linter.unusedSimpArgs false

/-- The view ahead of a law: all that lies in memory is data. -/
def Conc.start (W : World) : Conc := Conc.alone (fun c o => W.cell? ⟨c, o, none⟩) W

theorem HR.start {E : Env} {W : World} (hG : ∀ g cs, E.G g = some cs → CR (Conc.start W) cs g 0) : HR E (Conc.start W) [] W :=
  ⟨rfl, fun b o i e => by simp at e, fun b i e => by simp [Conc.start, Conc.alone] at e, fun b b' i i' e => by simp [Conc.start, Conc.alone] at e, fun b i o ob eo ek e => by simp [Conc.start, Conc.alone] at e,
    fun _ _ _ h => h, Below.refl _ _, Nat.le_refl _, hG⟩

theorem law_walk {E : Env} {f : FuncId} {args : List AV} {cargs : List Value} {W : World} (hG : ∀ g cs, E.G g = some cs → CR (Conc.start W) cs g 0) (h : VCall E f args [] fun v H => v = .bool true) (hv : VRL (Conc.start W) args cargs) :
    Calls E.P f cargs.toArray W fun e W' => e = .returned (.bool true) ∧ Below W.heap.size W W' := by
  have h1 := callsIn_wide.1 (h.call _ cargs W (HR.start hG) hv)
  refine h1.mono fun e W' q => ?_
  obtain ⟨v, cv, K', H', rfl, hx, hH, hr, rfl⟩ := q
  simp only [VR] at hr
  subst hr
  refine ⟨rfl, ?_⟩
  have h2 := hH.below
  rw [hx.hB, hx.hw] at h2
  exact h2

/-- A slice of whole numbers, as it lies ahead of a law. -/
def IsRow (k : IntKind) (w : World) (a : Option Addr) (len cap : Nat) (zs : List Int) : Prop :=
  (a = none ∧ len = 0 ∧ cap = 0 ∧ zs = []) ∨
  ∃ x, a = some x ∧ len ≤ cap ∧ cap ≤ maxLen ∧ zs.length = cap ∧ (∀ i, i < zs.length → w.cell? (x.add i) = some (.int k (zs.getD i 0))) ∧ ∀ n ∈ zs, (Lit.int k n).wf = true

def ints (k : IntKind) (l : List Int) : List AV := l.map (.int k)
theorem VRL.ints {K : Conc} {k : IntKind} : ∀ (l : List Int), VRL K (Go.Proofs.YtcdnonggajoghaaDoor.ints k l) (l.map (.int k))
  | [] => rfl
  | n :: l => ⟨_, _, rfl, rfl, VRL.ints l⟩

theorem IsRow.vr {k : IntKind} {w : World} {a : Option Addr} {len cap : Nat} {zs : List Int} (h : IsRow k w a len cap zs) : VR (Conc.start w) (.dsl (ints k (zs.take len)) len) (.slice a len cap) ∧ len ≤ maxLen ∧ (zs.take len).length = len := by
  rcases h with ⟨rfl, rfl, rfl, rfl⟩ | ⟨x, rfl, hl, hm, hz, hc, hw⟩
  · exact ⟨⟨none, 0, rfl, Nat.le_refl _, fun hne => absurd rfl hne⟩, Nat.zero_le _, rfl⟩
  · refine ⟨?_, by omega, by rw [List.length_take]; omega⟩
    simp only [VR]
    refine ⟨some x, cap, rfl, hl, fun hne => ?_⟩
    have hlen : 0 < len := by
      rcases Nat.eq_zero_or_pos len with h0 | h0
      · subst h0; exact absurd rfl hne
      · exact h0
    have hx : x = ⟨x.block, x.off, none⟩ := by
      have h0 := hc 0 (by omega)
      rw [show x.add 0 = x from rfl] at h0
      unfold World.cell? at h0
      split at h0
      · split at h0
        · cases h0
        · rename_i hs
          obtain ⟨b, o, s⟩ := x
          cases s with
          | none => rfl
          | some y => exact absurd rfl hs
      · cases h0
    refine ⟨x.block, x.off, by rw [← hx], CR.of (VRL.ints _) (fun j u hj => ?_) (List.all_eq_true.2 fun y hy => by obtain ⟨n, _, rfl⟩ := List.mem_map.1 hy; rfl)⟩
    rw [List.getElem?_map, List.getElem?_take] at hj
    split at hj
    · obtain ⟨n, hn, rfl⟩ := Option.map_eq_some_iff.1 hj
      have hjz := (List.getElem?_eq_some_iff.1 hn).1
      have h1 := hc j hjz
      rw [hx, add_off, List.getD_eq_getElem?_getD, hn] at h1
      exact h1
    · cases hj

theorem wf_u32 {n : Int} (h : (Lit.int .u32 n).wf = true) : 0 ≤ n ∧ n < 4294967296 := by
  simp only [Lit.wf, Bool.and_eq_true, decide_eq_true_eq] at h
  have h1 : IntKind.min .u32 = 0 := rfl
  have h2 : IntKind.max .u32 = 4294967295 := rfl
  omega
theorem wf_i64 {n : Int} (h : (Lit.int .i64 n).wf = true) : -9223372036854775808 ≤ n ∧ n < 9223372036854775808 := by
  simp only [Lit.wf, Bool.and_eq_true, decide_eq_true_eq] at h
  have h1 : IntKind.min .i64 = -9223372036854775808 := rfl
  have h2 : IntKind.max .i64 = 9223372036854775807 := rfl
  omega

theorem IsRow.nat {w : World} {a : Option Addr} {len cap : Nat} {zs : List Int} (h : IsRow .u32 w a len cap zs) :
    ∃ l : List Nat, VR (Conc.start w) (natL l) (.slice a len cap) ∧ l.length < 9223372036854775808 ∧ ∀ x ∈ l, x < 4294967296 := by
  obtain ⟨h1, h2, h3⟩ := h.vr
  have hw : ∀ n ∈ zs.take len, 0 ≤ n ∧ n < 4294967296 := by
    rcases h with ⟨rfl, rfl, rfl, rfl⟩ | ⟨x, rfl, hl, hm, hz, hc, hw⟩
    · intro n hn; simp at hn
    · exact fun n hn => wf_u32 (hw n (List.mem_of_mem_take hn))
  have e : ints .u32 (zs.take len) = limbs ((zs.take len).map Int.toNat) := by
    simp only [ints, limbs, List.map_map]
    refine List.map_congr_left fun n hn => ?_
    simp [Int.toNat_of_nonneg (hw n hn).1]
  refine ⟨(zs.take len).map Int.toNat, ?_, ?_, ?_⟩
  · rw [natL, ← e, List.length_map, h3]; exact h1
  · rw [List.length_map, h3]; simp only [maxLen] at h2; omega
  · intro x hx
    obtain ⟨n, hn, rfl⟩ := List.mem_map.1 hx
    have := hw n hn
    omega

end Go.Proofs.YtcdnonggajoghaaDoor
