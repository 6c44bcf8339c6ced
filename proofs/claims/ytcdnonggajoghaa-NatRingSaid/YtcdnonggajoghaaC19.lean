/- The law of a ring. -/
import Derived.Test.YtcdnonggajoghaaC18
namespace Go.Proofs.Ytcdnonggajoghaa
open Go Go.RowKit
set_option linter.unusedVariables false
set_option linter.unusedSimpArgs false
set_option maxRecDepth 100000

theorem pow_len (a n : Nat) : (dg (a ^ n)).length ≤ n * (dg a).length + 1 := by
  refine length_dg_lt ?_
  have h1 : a ^ n ≤ (BB ^ (dg a).length) ^ n := Nat.pow_le_pow_left (Nat.le_of_lt (lt_of_length_dg a)) n
  rw [← Nat.pow_mul, Nat.mul_comm] at h1
  have h2 : 0 < BB ^ (n * (dg a).length) := Nat.pow_pos (by decide)
  rw [Nat.pow_succ]
  have h3 : BB ^ (n * (dg a).length) * 2 ≤ BB ^ (n * (dg a).length) * BB := Nat.mul_le_mul_left _ (by decide)
  omega

theorem ring_pows {A r s : Nat} (la : (dg A).length ≤ 20) (hr : r ≤ 20) (hs : s ≤ 20) :
    vcode EE true Try.f6.ntmps none (nthSeq Try.f6 9) (vret EE Try.f6 fun v H => v = .bool true) ⟨[(11, natv A), (3, .int .i64 r), (4, .int .i64 s), (14, natv A), (15, .int .i64 0)], [], []⟩ := by
  have e1 : (r : Int) + (s : Int) = ((r + s : Nat) : Int) := by simp
  have l1 := pow_len A r
  have l2 := pow_len A s
  have l3 := pow_len A (r + s)
  have m1 : r * (dg A).length ≤ 20 * 20 := Nat.mul_le_mul hr la
  have m2 : s * (dg A).length ≤ 20 * 20 := Nat.mul_le_mul hs la
  have m3 : (r + s) * (dg A).length ≤ 40 * 20 := Nat.mul_le_mul (by omega) la
  have hp := lproduct_n (a := A ^ r) (b := A ^ s) (by omega)
  rw [← Nat.pow_add] at hp
  have ho := lproduct_n (a := A) (b := 1) (by rw [dg_len_one]; omega)
  rw [← one_nat, Nat.mul_one] at ho
  repeat' ((conv => whnf); first | refine ngo ?_ | refine VB.tt ?_ | refine VB.ff ?_ | refine VNew.keep ?_ | refine dgo ?_ | refine sgo ?_ | fail)
  conv => whnf
  refine VCall.i (npow_n (a := A) (n := r) (by omega) (by omega) (by omega)) ?_
  repeat' ((conv => whnf); first | refine ngo ?_ | refine VB.tt ?_ | refine VB.ff ?_ | refine VNew.keep ?_ | refine dgo ?_ | refine sgo ?_ | fail)
  conv => whnf
  refine VCall.i (npow_n (a := A) (n := s) (by omega) (by omega) (by omega)) ?_
  repeat' ((conv => whnf); first | refine ngo ?_ | refine VB.tt ?_ | refine VB.ff ?_ | refine VNew.keep ?_ | refine dgo ?_ | refine sgo ?_ | fail)
  conv => whnf
  rw [e1]
  refine VCall.i (npow_n (a := A) (n := r + s) (by omega) (by omega) (by omega)) ?_
  repeat' ((conv => whnf); first | refine ngo ?_ | refine VB.tt ?_ | refine VB.ff ?_ | refine VNew.keep ?_ | refine dgo ?_ | refine sgo ?_ | fail)
  conv => whnf
  refine VCall.s (alike_same (dg A) (by omega)) ?_
  repeat' ((conv => whnf); first | refine ngo ?_ | refine VB.tt ?_ | refine VB.ff ?_ | refine VNew.keep ?_ | refine dgo ?_ | refine sgo ?_ | fail)
  conv => whnf
  refine VCall.i (hp) ?_
  repeat' ((conv => whnf); first | refine ngo ?_ | refine VB.tt ?_ | refine VB.ff ?_ | refine VNew.keep ?_ | refine dgo ?_ | refine sgo ?_ | fail)
  conv => whnf
  refine VCall.s (alike_same (dg (A ^ (r + s))) (by omega)) ?_
  repeat' ((conv => whnf); first | refine ngo ?_ | refine VB.tt ?_ | refine VB.ff ?_ | refine dgo ?_ | refine sgo ?_ | fail)
  conv => whnf
  refine VNew.dat (cs' := limbs [1]) rfl rfl ?_
  repeat' ((conv => whnf); first | refine ngo ?_ | refine VB.tt ?_ | refine VB.ff ?_ | refine VNew.keep ?_ | refine dgo ?_ | refine sgo ?_ | fail)
  conv => whnf
  refine VCall.i (ho) ?_
  repeat' ((conv => whnf); first | refine ngo ?_ | refine VB.tt ?_ | refine VB.ff ?_ | refine VNew.keep ?_ | refine dgo ?_ | refine sgo ?_ | fail)
  conv => whnf
  refine VCall.s (alike_same (dg A) (by omega)) ?_
  repeat' ((conv => whnf); first | refine ngo ?_ | refine VB.tt ?_ | refine VB.ff ?_ | refine VNew.keep ?_ | refine dgo ?_ | refine sgo ?_ | fail)
  conv => whnf
  refine VCall.s (awake_c) ?_
  repeat' ((conv => whnf); first | refine ngo ?_ | refine VB.tt ?_ | refine VB.ff ?_ | refine VNew.keep ?_ | refine dgo ?_ | refine sgo ?_ | fail)
  conv => whnf

theorem ring_sums {A B C : Nat} {i j : Int} (la : (dg A).length ≤ 20) (lb : (dg B).length ≤ 20) (lc : (dg C).length ≤ 20) (i1 : -9223372036854775808 ≤ i) (i2 : i < 9223372036854775808) (j1 : -9223372036854775808 ≤ j) (j2 : j < 9223372036854775808) :
    vcode EE true Try.f6.ntmps none (nthSeq Try.f6 4) (vret EE Try.f6 fun v H => v = .bool true) ⟨[(11, natv A), (12, natv B), (13, natv C), (3, .int .i64 i), (4, .int .i64 j)], [], []⟩ := by
  have l1 := dg_add_le A B
  have l2 := dg_mul_le A B
  have l3 := dg_add_le B C
  have l4 := dg_mul_le B C
  have l5 := dg_add_le (A + B) C
  have l6 := dg_mul_le (A * B) C
  have l7 := dg_mul_le A C
  have l8 := dg_mul_le A (B + C)
  have a1 := lsum_n (a := B) (b := A) (by omega) (by omega)
  rw [Nat.add_comm B A] at a1
  have a2 := lproduct_n (a := B) (b := A) (by omega)
  rw [Nat.mul_comm B A] at a2
  have a3 := lsum_n (a := A) (b := B + C) (by omega) (by omega)
  rw [← Nat.add_assoc] at a3
  have a4 := lproduct_n (a := A) (b := B * C) (by omega)
  rw [← Nat.mul_assoc] at a4
  have a5 := lsum_n (a := A * B) (b := A * C) (by omega) (by omega)
  rw [← Nat.mul_add] at a5
  have a6 := nsub_n (a := A + B) (b := B) (by omega) (by omega)
  rw [Nat.add_sub_cancel] at a6
  repeat' ((conv => whnf); first | refine ngo ?_ | refine VB.tt ?_ | refine VB.ff ?_ | refine VNew.keep ?_ | refine dgo ?_ | refine sgo ?_ | fail)
  conv => whnf
  refine VCall.i (lsum_n (a := A) (b := B) (by omega) (by omega)) ?_
  repeat' ((conv => whnf); first | refine ngo ?_ | refine VB.tt ?_ | refine VB.ff ?_ | refine VNew.keep ?_ | refine dgo ?_ | refine sgo ?_ | fail)
  conv => whnf
  refine VCall.i (a1) ?_
  repeat' ((conv => whnf); first | refine ngo ?_ | refine VB.tt ?_ | refine VB.ff ?_ | refine VNew.keep ?_ | refine dgo ?_ | refine sgo ?_ | fail)
  conv => whnf
  refine VCall.s (alike_same (dg (A + B)) (by omega)) ?_
  repeat' ((conv => whnf); first | refine ngo ?_ | refine VB.tt ?_ | refine VB.ff ?_ | refine VNew.keep ?_ | refine dgo ?_ | refine sgo ?_ | fail)
  conv => whnf
  refine VCall.i (lproduct_n (a := A) (b := B) (by omega)) ?_
  repeat' ((conv => whnf); first | refine ngo ?_ | refine VB.tt ?_ | refine VB.ff ?_ | refine VNew.keep ?_ | refine dgo ?_ | refine sgo ?_ | fail)
  conv => whnf
  refine VCall.i (a2) ?_
  repeat' ((conv => whnf); first | refine ngo ?_ | refine VB.tt ?_ | refine VB.ff ?_ | refine VNew.keep ?_ | refine dgo ?_ | refine sgo ?_ | fail)
  conv => whnf
  refine VCall.s (alike_same (dg (A * B)) (by omega)) ?_
  repeat' ((conv => whnf); first | refine ngo ?_ | refine VB.tt ?_ | refine VB.ff ?_ | refine VNew.keep ?_ | refine dgo ?_ | refine sgo ?_ | fail)
  conv => whnf
  refine VCall.i (lsum_n (a := A) (b := B) (by omega) (by omega)) ?_
  repeat' ((conv => whnf); first | refine ngo ?_ | refine VB.tt ?_ | refine VB.ff ?_ | refine VNew.keep ?_ | refine dgo ?_ | refine sgo ?_ | fail)
  conv => whnf
  refine VCall.i (lsum_n (a := A + B) (b := C) (by omega) (by omega)) ?_
  repeat' ((conv => whnf); first | refine ngo ?_ | refine VB.tt ?_ | refine VB.ff ?_ | refine VNew.keep ?_ | refine dgo ?_ | refine sgo ?_ | fail)
  conv => whnf
  refine VCall.i (lsum_n (a := B) (b := C) (by omega) (by omega)) ?_
  repeat' ((conv => whnf); first | refine ngo ?_ | refine VB.tt ?_ | refine VB.ff ?_ | refine VNew.keep ?_ | refine dgo ?_ | refine sgo ?_ | fail)
  conv => whnf
  refine VCall.i (a3) ?_
  repeat' ((conv => whnf); first | refine ngo ?_ | refine VB.tt ?_ | refine VB.ff ?_ | refine VNew.keep ?_ | refine dgo ?_ | refine sgo ?_ | fail)
  conv => whnf
  refine VCall.s (alike_same (dg (A + B + C)) (by omega)) ?_
  repeat' ((conv => whnf); first | refine ngo ?_ | refine VB.tt ?_ | refine VB.ff ?_ | refine VNew.keep ?_ | refine dgo ?_ | refine sgo ?_ | fail)
  conv => whnf
  refine VCall.i (lproduct_n (a := A) (b := B) (by omega)) ?_
  repeat' ((conv => whnf); first | refine ngo ?_ | refine VB.tt ?_ | refine VB.ff ?_ | refine VNew.keep ?_ | refine dgo ?_ | refine sgo ?_ | fail)
  conv => whnf
  refine VCall.i (lproduct_n (a := A * B) (b := C) (by omega)) ?_
  repeat' ((conv => whnf); first | refine ngo ?_ | refine VB.tt ?_ | refine VB.ff ?_ | refine VNew.keep ?_ | refine dgo ?_ | refine sgo ?_ | fail)
  conv => whnf
  refine VCall.i (lproduct_n (a := B) (b := C) (by omega)) ?_
  repeat' ((conv => whnf); first | refine ngo ?_ | refine VB.tt ?_ | refine VB.ff ?_ | refine VNew.keep ?_ | refine dgo ?_ | refine sgo ?_ | fail)
  conv => whnf
  refine VCall.i (a4) ?_
  repeat' ((conv => whnf); first | refine ngo ?_ | refine VB.tt ?_ | refine VB.ff ?_ | refine VNew.keep ?_ | refine dgo ?_ | refine sgo ?_ | fail)
  conv => whnf
  refine VCall.s (alike_same (dg (A * B * C)) (by omega)) ?_
  repeat' ((conv => whnf); first | refine ngo ?_ | refine VB.tt ?_ | refine VB.ff ?_ | refine VNew.keep ?_ | refine dgo ?_ | refine sgo ?_ | fail)
  conv => whnf
  refine VCall.i (lsum_n (a := B) (b := C) (by omega) (by omega)) ?_
  repeat' ((conv => whnf); first | refine ngo ?_ | refine VB.tt ?_ | refine VB.ff ?_ | refine VNew.keep ?_ | refine dgo ?_ | refine sgo ?_ | fail)
  conv => whnf
  refine VCall.i (lproduct_n (a := A) (b := B + C) (by omega)) ?_
  repeat' ((conv => whnf); first | refine ngo ?_ | refine VB.tt ?_ | refine VB.ff ?_ | refine VNew.keep ?_ | refine dgo ?_ | refine sgo ?_ | fail)
  conv => whnf
  refine VCall.i (lproduct_n (a := A) (b := B) (by omega)) ?_
  repeat' ((conv => whnf); first | refine ngo ?_ | refine VB.tt ?_ | refine VB.ff ?_ | refine VNew.keep ?_ | refine dgo ?_ | refine sgo ?_ | fail)
  conv => whnf
  refine VCall.i (lproduct_n (a := A) (b := C) (by omega)) ?_
  repeat' ((conv => whnf); first | refine ngo ?_ | refine VB.tt ?_ | refine VB.ff ?_ | refine VNew.keep ?_ | refine dgo ?_ | refine sgo ?_ | fail)
  conv => whnf
  refine VCall.i (a5) ?_
  repeat' ((conv => whnf); first | refine ngo ?_ | refine VB.tt ?_ | refine VB.ff ?_ | refine VNew.keep ?_ | refine dgo ?_ | refine sgo ?_ | fail)
  conv => whnf
  refine VCall.s (alike_same (dg (A * (B + C))) (by omega)) ?_
  repeat' ((conv => whnf); first | refine VB.tt ?_ | refine VB.ff ?_ | refine VNew.keep ?_ | refine dgo ?_ | refine sgo ?_ | fail)
  conv => whnf
  refine ngo ?_
  repeat' ((conv => whnf); first | refine VB.tt ?_ | refine VB.ff ?_ | refine VNew.keep ?_ | refine dgo ?_ | refine sgo ?_ | fail)
  conv => whnf
  refine VNext.at_ true ⟨[(11, natv A), (12, natv B), (3, .int .i64 i), (4, .int .i64 j)], [], []⟩ ⟨⟨rfl, rfl, rfl, rfl, trivial⟩, rfl, rfl⟩ ?_
  repeat' ((conv => whnf); first | refine ngo ?_ | refine VB.tt ?_ | refine VB.ff ?_ | refine VNew.keep ?_ | refine dgo ?_ | refine sgo ?_ | fail)
  conv => whnf
  refine VCall.i (lsum_n (a := A) (b := B) (by omega) (by omega)) ?_
  repeat' ((conv => whnf); first | refine ngo ?_ | refine VB.tt ?_ | refine VB.ff ?_ | refine VNew.keep ?_ | refine dgo ?_ | refine sgo ?_ | fail)
  conv => whnf
  refine VCall.i (a6) ?_
  repeat' ((conv => whnf); first | refine ngo ?_ | refine VB.tt ?_ | refine VB.ff ?_ | refine VNew.keep ?_ | refine dgo ?_ | refine sgo ?_ | fail)
  conv => whnf
  refine VCall.isolate (kmod_c i i1 i2) (by repeat' (first | exact trivial | exact low_natL 0 _ | exact low_limbs 0 _ | refine And.intro ?_ ?_ | fail)) fun v0 H0 hz => ?_
  obtain ⟨r, hr, rfl⟩ := hz
  refine ⟨_, .same rfl trivial, ?_⟩
  repeat' ((conv => whnf); first | refine ngo ?_ | refine VB.tt ?_ | refine VB.ff ?_ | refine VNew.keep ?_ | refine dgo ?_ | refine sgo ?_ | fail)
  conv => whnf
  refine VCall.isolate (kmod_c j j1 j2) (by repeat' (first | exact trivial | exact low_natL 0 _ | exact low_limbs 0 _ | refine And.intro ?_ ?_ | fail)) fun v0 H0 hz => ?_
  obtain ⟨s, hs, rfl⟩ := hz
  refine ⟨_, .same rfl trivial, ?_⟩
  repeat' ((conv => whnf); first | refine VB.tt ?_ | refine VB.ff ?_ | refine VNew.keep ?_ | refine dgo ?_ | refine sgo ?_ | fail)
  conv => whnf
  exact VNext.at_ true ⟨[(11, natv A), (3, .int .i64 r), (4, .int .i64 s), (14, natv A), (15, .int .i64 0)], [], []⟩ ⟨⟨rfl, rfl, rfl, rfl, rfl, trivial⟩, rfl, rfl⟩ (ring_pows la hr hs)

theorem natring_c (k l m : List Nat) (i : Int) (i1 : -9223372036854775808 ≤ i) (i2 : i < 9223372036854775808) (j : Int) (j1 : -9223372036854775808 ≤ j) (j2 : j < 9223372036854775808) :
    VCall EE 6 [natL k, natL l, natL m, .int .i64 i, .int .i64 j] [] fun v H => v = .bool true := by
  refine VCall.of_body true Try.func6 rfl (by decide) rfl ?_
  repeat' ((conv => whnf); first | refine ngo ?_ | refine VB.tt ?_ | refine VB.ff ?_ | refine VNew.keep ?_ | refine dgo ?_ | refine sgo ?_ | fail)
  conv => whnf
  by_cases h1 : (k.length : Int) > 20
  · rw [decide_eq_true h1]
    repeat' ((conv => whnf); first | refine ngo ?_ | refine VB.tt ?_ | refine VB.ff ?_ | refine VNew.keep ?_ | refine dgo ?_ | refine sgo ?_ | fail)
    conv => whnf
    refine VCall.s (awake_c) ?_
    repeat' ((conv => whnf); first | refine ngo ?_ | refine VB.tt ?_ | refine VB.ff ?_ | refine VNew.keep ?_ | refine dgo ?_ | refine sgo ?_ | fail)
    conv => whnf
  rw [decide_eq_false h1]
  repeat' ((conv => whnf); first | refine ngo ?_ | refine VB.tt ?_ | refine VB.ff ?_ | refine VNew.keep ?_ | refine dgo ?_ | refine sgo ?_ | fail)
  conv => whnf
  by_cases h2 : (l.length : Int) > 20
  · rw [decide_eq_true h2]
    repeat' ((conv => whnf); first | refine ngo ?_ | refine VB.tt ?_ | refine VB.ff ?_ | refine VNew.keep ?_ | refine dgo ?_ | refine sgo ?_ | fail)
    conv => whnf
    refine VCall.s (awake_c) ?_
    repeat' ((conv => whnf); first | refine ngo ?_ | refine VB.tt ?_ | refine VB.ff ?_ | refine VNew.keep ?_ | refine dgo ?_ | refine sgo ?_ | fail)
    conv => whnf
  rw [decide_eq_false h2]
  repeat' ((conv => whnf); first | refine ngo ?_ | refine VB.tt ?_ | refine VB.ff ?_ | refine VNew.keep ?_ | refine dgo ?_ | refine sgo ?_ | fail)
  conv => whnf
  refine VB.dec (fun h3 => ?_) (fun h3 => ?_)
  · repeat' ((conv => whnf); first | refine ngo ?_ | refine VB.tt ?_ | refine VB.ff ?_ | refine VNew.keep ?_ | refine dgo ?_ | refine sgo ?_ | fail)
    conv => whnf
    refine VCall.s (awake_c) ?_
    repeat' ((conv => whnf); first | refine ngo ?_ | refine VB.tt ?_ | refine VB.ff ?_ | refine VNew.keep ?_ | refine dgo ?_ | refine sgo ?_ | fail)
    conv => whnf
  repeat' ((conv => whnf); first | refine ngo ?_ | refine VB.tt ?_ | refine VB.ff ?_ | refine VNew.keep ?_ | refine dgo ?_ | refine sgo ?_ | fail)
  conv => whnf
  refine VCall.i (klimbs_c k (by omega)) ?_
  repeat' ((conv => whnf); first | refine ngo ?_ | refine VB.tt ?_ | refine VB.ff ?_ | refine VNew.keep ?_ | refine dgo ?_ | refine sgo ?_ | fail)
  conv => whnf
  refine VCall.i (klimbs_c l (by omega)) ?_
  repeat' ((conv => whnf); first | refine ngo ?_ | refine VB.tt ?_ | refine VB.ff ?_ | refine VNew.keep ?_ | refine dgo ?_ | refine sgo ?_ | fail)
  conv => whnf
  refine VCall.i (klimbs_c m (by omega)) ?_
  have la := sel_len k
  have lb := sel_len l
  have lc := sel_len m
  repeat' ((conv => whnf); first | refine VB.tt ?_ | refine VB.ff ?_ | refine VNew.keep ?_ | refine dgo ?_ | refine sgo ?_ | fail)
  conv => whnf
  exact VNext.at_ true ⟨[(11, natv (sel k)), (12, natv (sel l)), (13, natv (sel m)), (3, .int .i64 i), (4, .int .i64 j)], [], []⟩ ⟨⟨rfl, rfl, rfl, rfl, rfl, trivial⟩, rfl, rfl⟩ (ring_sums (by omega) (by omega) (by omega) i1 i2 j1 j2)
end Go.Proofs.Ytcdnonggajoghaa
