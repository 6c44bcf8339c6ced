/- The laws of division and of a ring. -/
import Derived.Test.YtcdnonggajoghaaC17
namespace Go.Proofs.Ytcdnonggajoghaa
open Go Go.RowKit
set_option linter.unusedVariables false
set_option linter.unusedSimpArgs false
set_option maxRecDepth 100000

theorem ndiv_nil {a : Nat} (la : (dg a).length ≤ 1024) : VCall EE 9 [natv a, .nsl] [] fun v H => Fz H 0 [] v (.tup [natv 0, natv 0, .int .i64 6]) := by
  have h := ndiv_c (dg a) [] (by omega) (by decide)
  rw [divR, both2, if_pos (chk_dg la), show chk [] = 0 by decide, if_pos rfl, if_pos (show val ([] : List Nat) = 0 from rfl)] at h
  refine h.conv fun K vs hv => ?_
  simp only [VRL, VR] at hv ⊢
  obtain ⟨u, us, e1, h1, u2, us2, e2, h2, e3⟩ := hv
  exact ⟨u, us, e1, h1, u2, us2, e2, ⟨none, 0, h2, Nat.le_refl _, fun hne => absurd rfl hne⟩, e3⟩

theorem dg_pos_len {n : Nat} (h : n ≠ 0) : (dg n).length ≠ 0 := fun e => h (dg_len_zero e)
theorem beq_len {n : Nat} (h : n ≠ 0) : (((dg n).length : Int) == 0) = false := by
  have := dg_pos_len h
  simpa using this

theorem divides_main {A B C : Nat} (hA : A ≠ 0) (hB : B ≠ 0) (hC : C ≠ 0) (la : (dg A).length ≤ 25) (lb : (dg B).length ≤ 25) (lc : (dg C).length ≤ 5) :
    vcode EE true Try.f4.ntmps none (nthSeq Try.f4 5) (vret EE Try.f4 fun v H => v = .bool true) ⟨[(7, natv A), (8, natv B), (9, natv C)], [], []⟩ := by
  have hml : A % B < B := Nat.mod_lt _ (by omega)
  have lq := dg_length_mono (Nat.div_le_self A B)
  have lr := dg_length_mono (Nat.mod_le A B)
  have lqb := dg_length_mono (Nat.div_mul_le_self A B)
  have lac := dg_mul_le A C
  have lbc := dg_mul_le B C
  have lab := dg_mul_le A B
  have hG : Nat.gcd A B ≠ 0 := fun e => hA (Nat.gcd_eq_zero_iff.1 e).1
  have lg := dg_length_mono (Nat.gcd_le_left B (Nat.pos_of_ne_zero hA))
  have ll : (dg (Nat.lcm A B)).length ≤ 50 := by
    have h1 := dg_length_mono (Nat.mul_le_mul_right B (Nat.div_le_self A (Nat.gcd A B)))
    rw [lcm_alt]
    omega
  have hc := ncmp_n (a := A % B) (b := B) (by omega) (by omega)
  rw [cmpN_lt hml] at hc
  have hs := lsum_n (a := A / B * B) (b := A % B) (by omega) (by omega)
  rw [Nat.div_add_mod'] at hs
  repeat' ((conv => whnf); first | refine ngo ?_ | refine VB.tt ?_ | refine VB.ff ?_ | refine VNew.keep ?_ | refine dgo ?_ | refine sgo ?_ | fail)
  conv => whnf
  refine VCall.i (ndiv_n (a := A) (b := B) (by omega) (by omega) hB) ?_
  repeat' ((conv => whnf); first | refine ngo ?_ | refine VB.tt ?_ | refine VB.ff ?_ | refine VNew.keep ?_ | refine dgo ?_ | refine sgo ?_ | fail)
  conv => whnf
  refine VCall.s (hc) ?_
  repeat' ((conv => whnf); first | refine ngo ?_ | refine VB.tt ?_ | refine VB.ff ?_ | refine VNew.keep ?_ | refine dgo ?_ | refine sgo ?_ | fail)
  conv => whnf
  refine VCall.i (lproduct_n (a := A / B) (b := B) (by omega)) ?_
  repeat' ((conv => whnf); first | refine ngo ?_ | refine VB.tt ?_ | refine VB.ff ?_ | refine VNew.keep ?_ | refine dgo ?_ | refine sgo ?_ | fail)
  conv => whnf
  refine VCall.i (hs) ?_
  repeat' ((conv => whnf); first | refine ngo ?_ | refine VB.tt ?_ | refine VB.ff ?_ | refine VNew.keep ?_ | refine dgo ?_ | refine sgo ?_ | fail)
  conv => whnf
  refine VCall.s (alike_same (dg A) (by omega)) ?_
  repeat' ((conv => whnf); first | refine VB.tt ?_ | refine VB.ff ?_ | refine VNew.keep ?_ | refine dgo ?_ | refine sgo ?_ | fail)
  conv => whnf
  refine ngo ?_
  repeat' ((conv => whnf); first | refine VB.tt ?_ | refine VB.ff ?_ | refine VNew.keep ?_ | refine dgo ?_ | refine sgo ?_ | fail)
  conv => whnf
  refine VNext.at_ true ⟨[(7, natv A), (8, natv B), (9, natv C)], [], []⟩ ⟨⟨rfl, rfl, rfl, trivial⟩, rfl, rfl⟩ ?_
  clear hc hs
  have hg := ngcd_n (a := A * C) (b := B * C) (by omega) (by omega)
  rw [Nat.gcd_mul_right] at hg
  have hp := lproduct_n (a := Nat.gcd A B) (b := Nat.lcm A B) (by omega)
  rw [Nat.gcd_mul_lcm] at hp
  have lgc := dg_mul_le (Nat.gcd A B) C
  repeat' ((conv => whnf); first | refine ngo ?_ | refine VB.tt ?_ | refine VB.ff ?_ | refine VNew.keep ?_ | refine dgo ?_ | refine sgo ?_ | fail)
  conv => whnf
  refine VCall.i (lproduct_n (a := A) (b := C) (by omega)) ?_
  repeat' ((conv => whnf); first | refine ngo ?_ | refine VB.tt ?_ | refine VB.ff ?_ | refine VNew.keep ?_ | refine dgo ?_ | refine sgo ?_ | fail)
  conv => whnf
  refine VCall.i (lproduct_n (a := B) (b := C) (by omega)) ?_
  repeat' ((conv => whnf); first | refine ngo ?_ | refine VB.tt ?_ | refine VB.ff ?_ | refine VNew.keep ?_ | refine dgo ?_ | refine sgo ?_ | fail)
  conv => whnf
  refine VCall.i (hg) ?_
  repeat' ((conv => whnf); first | refine ngo ?_ | refine VB.tt ?_ | refine VB.ff ?_ | refine VNew.keep ?_ | refine dgo ?_ | refine sgo ?_ | fail)
  conv => whnf
  refine VCall.i (ngcd_n (a := A) (b := B) (by omega) (by omega)) ?_
  repeat' ((conv => whnf); first | refine ngo ?_ | refine VB.tt ?_ | refine VB.ff ?_ | refine VNew.keep ?_ | refine dgo ?_ | refine sgo ?_ | fail)
  conv => whnf
  refine VCall.i (nlcm_n (a := A) (b := B) (by omega) (by omega)) ?_
  repeat' ((conv => whnf); first | refine ngo ?_ | refine VB.tt ?_ | refine VB.ff ?_ | refine VNew.keep ?_ | refine dgo ?_ | refine sgo ?_ | fail)
  conv => whnf
  rw [beq_len hG]
  repeat' ((conv => whnf); first | refine ngo ?_ | refine VB.tt ?_ | refine VB.ff ?_ | refine VNew.keep ?_ | refine dgo ?_ | refine sgo ?_ | fail)
  conv => whnf
  refine VCall.i (lproduct_n (a := Nat.gcd A B) (b := C) (by omega)) ?_
  repeat' ((conv => whnf); first | refine ngo ?_ | refine VB.tt ?_ | refine VB.ff ?_ | refine VNew.keep ?_ | refine dgo ?_ | refine sgo ?_ | fail)
  conv => whnf
  refine VCall.s (alike_same (dg (Nat.gcd A B * C)) (by omega)) ?_
  repeat' ((conv => whnf); first | refine ngo ?_ | refine VB.tt ?_ | refine VB.ff ?_ | refine VNew.keep ?_ | refine dgo ?_ | refine sgo ?_ | fail)
  conv => whnf
  refine VCall.i (hp) ?_
  repeat' ((conv => whnf); first | refine ngo ?_ | refine VB.tt ?_ | refine VB.ff ?_ | refine VNew.keep ?_ | refine dgo ?_ | refine sgo ?_ | fail)
  conv => whnf
  refine VCall.i (lproduct_n (a := A) (b := B) (by omega)) ?_
  repeat' ((conv => whnf); first | refine ngo ?_ | refine VB.tt ?_ | refine VB.ff ?_ | refine VNew.keep ?_ | refine dgo ?_ | refine sgo ?_ | fail)
  conv => whnf
  refine VCall.s (alike_same (dg (A * B)) (by omega)) ?_
  repeat' ((conv => whnf); first | refine VB.tt ?_ | refine VB.ff ?_ | refine VNew.keep ?_ | refine dgo ?_ | refine sgo ?_ | fail)
  conv => whnf
  refine ngo ?_
  repeat' ((conv => whnf); first | refine VB.tt ?_ | refine VB.ff ?_ | refine VNew.keep ?_ | refine dgo ?_ | refine sgo ?_ | fail)
  conv => whnf
  refine VNext.at_ true ⟨[(7, natv A), (8, natv B), (19, natv (Nat.gcd A B))], [], []⟩ ⟨⟨rfl, rfl, rfl, trivial⟩, rfl, rfl⟩ ?_
  clear hg hp
  have h1 := ndiv_n (a := A) (b := Nat.gcd A B) (by omega) (by omega) hG
  rw [Nat.mod_eq_zero_of_dvd (Nat.gcd_dvd_left A B), natv_zero] at h1
  have h2 := ndiv_n (a := B) (b := Nat.gcd A B) (by omega) (by omega) hG
  rw [Nat.mod_eq_zero_of_dvd (Nat.gcd_dvd_right A B), natv_zero] at h2
  have l1 := dg_length_mono (Nat.div_le_self A (Nat.gcd A B))
  have l2 := dg_length_mono (Nat.div_le_self B (Nat.gcd A B))
  have h3 := ngcd_n (a := A / Nat.gcd A B) (b := B / Nat.gcd A B) (by omega) (by omega)
  rw [Nat.gcd_div (Nat.gcd_dvd_left A B) (Nat.gcd_dvd_right A B), Nat.div_self (Nat.pos_of_ne_zero hG), natv_lit (n := 1) (w := [1]) (by decide) (by decide)] at h3
  repeat' ((conv => whnf); first | refine ngo ?_ | refine VB.tt ?_ | refine VB.ff ?_ | refine VNew.keep ?_ | refine dgo ?_ | refine sgo ?_ | fail)
  conv => whnf
  refine VCall.i (h1) ?_
  repeat' ((conv => whnf); first | refine ngo ?_ | refine VB.tt ?_ | refine VB.ff ?_ | refine VNew.keep ?_ | refine dgo ?_ | refine sgo ?_ | fail)
  conv => whnf
  refine VCall.i (h2) ?_
  repeat' ((conv => whnf); first | refine ngo ?_ | refine VB.tt ?_ | refine VB.ff ?_ | refine VNew.keep ?_ | refine dgo ?_ | refine sgo ?_ | fail)
  conv => whnf
  refine VCall.i (h3) ?_
  repeat' ((conv => whnf); first | refine ngo ?_ | refine VB.tt ?_ | refine VB.ff ?_ | refine dgo ?_ | refine sgo ?_ | fail)
  conv => whnf
  refine VNew.dat (cs' := limbs [1]) rfl rfl ?_
  repeat' ((conv => whnf); first | refine ngo ?_ | refine VB.tt ?_ | refine VB.ff ?_ | refine VNew.keep ?_ | refine dgo ?_ | refine sgo ?_ | fail)
  conv => whnf
  show VCall EE _ [natL [1], .int .i64 0, natL [1]] [.gone] _
  refine VCall.s (is_same (by decide)) ?_
  repeat' ((conv => whnf); first | refine ngo ?_ | refine VB.tt ?_ | refine VB.ff ?_ | refine VNew.keep ?_ | refine dgo ?_ | refine sgo ?_ | fail)
  conv => whnf
  refine VCall.s (awake_c) ?_
  repeat' ((conv => whnf); first | refine ngo ?_ | refine VB.tt ?_ | refine VB.ff ?_ | refine VNew.keep ?_ | refine dgo ?_ | refine sgo ?_ | fail)
  conv => whnf

theorem natdivides_c (k l m : List Nat) : VCall EE 4 [natL k, natL l, natL m] [] fun v H => v = .bool true := by
  refine VCall.of_body true Try.func4 rfl (by decide) rfl ?_
  repeat' ((conv => whnf); first | refine ngo ?_ | refine VB.tt ?_ | refine VB.ff ?_ | refine VNew.keep ?_ | refine dgo ?_ | refine sgo ?_ | fail)
  conv => whnf
  by_cases h1 : (k.length : Int) > 25
  · rw [decide_eq_true h1]
    repeat' ((conv => whnf); first | refine ngo ?_ | refine VB.tt ?_ | refine VB.ff ?_ | refine VNew.keep ?_ | refine dgo ?_ | refine sgo ?_ | fail)
    conv => whnf
    refine VCall.s (awake_c) ?_
    repeat' ((conv => whnf); first | refine ngo ?_ | refine VB.tt ?_ | refine VB.ff ?_ | refine VNew.keep ?_ | refine dgo ?_ | refine sgo ?_ | fail)
    conv => whnf
  rw [decide_eq_false h1]
  repeat' ((conv => whnf); first | refine ngo ?_ | refine VB.tt ?_ | refine VB.ff ?_ | refine VNew.keep ?_ | refine dgo ?_ | refine sgo ?_ | fail)
  conv => whnf
  by_cases h2 : (l.length : Int) > 25
  · rw [decide_eq_true h2]
    repeat' ((conv => whnf); first | refine ngo ?_ | refine VB.tt ?_ | refine VB.ff ?_ | refine VNew.keep ?_ | refine dgo ?_ | refine sgo ?_ | fail)
    conv => whnf
    refine VCall.s (awake_c) ?_
    repeat' ((conv => whnf); first | refine ngo ?_ | refine VB.tt ?_ | refine VB.ff ?_ | refine VNew.keep ?_ | refine dgo ?_ | refine sgo ?_ | fail)
    conv => whnf
  rw [decide_eq_false h2]
  repeat' ((conv => whnf); first | refine ngo ?_ | refine VB.tt ?_ | refine VB.ff ?_ | refine VNew.keep ?_ | refine dgo ?_ | refine sgo ?_ | fail)
  conv => whnf
  refine VB.dec (fun h3 => ?_) (fun h3 => ?_)
  · repeat' ((conv => whnf); first | refine ngo ?_ | refine VB.tt ?_ | refine VB.ff ?_ | refine VNew.keep ?_ | refine dgo ?_ | refine sgo ?_ | fail)
    conv => whnf
    refine VCall.s (awake_c) ?_
    repeat' ((conv => whnf); first | refine ngo ?_ | refine VB.tt ?_ | refine VB.ff ?_ | refine VNew.keep ?_ | refine dgo ?_ | refine sgo ?_ | fail)
    conv => whnf
  repeat' ((conv => whnf); first | refine ngo ?_ | refine VB.tt ?_ | refine VB.ff ?_ | refine VNew.keep ?_ | refine dgo ?_ | refine sgo ?_ | fail)
  conv => whnf
  refine VCall.i (klimbs_c k (by omega)) ?_
  repeat' ((conv => whnf); first | refine ngo ?_ | refine VB.tt ?_ | refine VB.ff ?_ | refine VNew.keep ?_ | refine dgo ?_ | refine sgo ?_ | fail)
  conv => whnf
  refine VCall.i (klimbs_c l (by omega)) ?_
  repeat' ((conv => whnf); first | refine ngo ?_ | refine VB.tt ?_ | refine VB.ff ?_ | refine VNew.keep ?_ | refine dgo ?_ | refine sgo ?_ | fail)
  conv => whnf
  refine VCall.i (klimbs_c m (by omega)) ?_
  have la := sel_len k
  have lb := sel_len l
  have lc := sel_len m
  generalize sel k = A at *
  generalize sel l = B at *
  generalize sel m = C at *
  repeat' ((conv => whnf); first | refine VB.tt ?_ | refine VB.ff ?_ | refine VNew.keep ?_ | refine dgo ?_ | refine sgo ?_ | fail)
  conv => whnf
  refine VNext.at_ true ⟨[(7, natv A), (8, natv B), (9, natv C)], [], []⟩ ⟨⟨rfl, rfl, rfl, trivial⟩, rfl, rfl⟩ ?_
  repeat' ((conv => whnf); first | refine ngo ?_ | refine VB.tt ?_ | refine VB.ff ?_ | refine VNew.keep ?_ | refine dgo ?_ | refine sgo ?_ | fail)
  conv => whnf
  by_cases hA : A = 0
  · rw [show (((dg A).length : Int) == 0) = true by rw [hA, dg_zero]; rfl]
    repeat' ((conv => whnf); first | refine ngo ?_ | refine VB.tt ?_ | refine VB.ff ?_ | refine VNew.keep ?_ | refine dgo ?_ | refine sgo ?_ | fail)
    conv => whnf
    refine VCall.i (ndiv_nil (by omega)) ?_
    repeat' ((conv => whnf); first | refine ngo ?_ | refine VB.tt ?_ | refine VB.ff ?_ | refine VNew.keep ?_ | refine dgo ?_ | refine sgo ?_ | fail)
    conv => whnf
    refine VCall.s (awake_c) ?_
    repeat' ((conv => whnf); first | refine ngo ?_ | refine VB.tt ?_ | refine VB.ff ?_ | refine VNew.keep ?_ | refine dgo ?_ | refine sgo ?_ | fail)
    conv => whnf
  rw [beq_len hA]
  repeat' ((conv => whnf); first | refine ngo ?_ | refine VB.tt ?_ | refine VB.ff ?_ | refine VNew.keep ?_ | refine dgo ?_ | refine sgo ?_ | fail)
  conv => whnf
  by_cases hB : B = 0
  · rw [show (((dg B).length : Int) == 0) = true by rw [hB, dg_zero]; rfl]
    repeat' ((conv => whnf); first | refine ngo ?_ | refine VB.tt ?_ | refine VB.ff ?_ | refine VNew.keep ?_ | refine dgo ?_ | refine sgo ?_ | fail)
    conv => whnf
    refine VCall.i (ndiv_nil (by omega)) ?_
    repeat' ((conv => whnf); first | refine ngo ?_ | refine VB.tt ?_ | refine VB.ff ?_ | refine VNew.keep ?_ | refine dgo ?_ | refine sgo ?_ | fail)
    conv => whnf
    refine VCall.s (awake_c) ?_
    repeat' ((conv => whnf); first | refine ngo ?_ | refine VB.tt ?_ | refine VB.ff ?_ | refine VNew.keep ?_ | refine dgo ?_ | refine sgo ?_ | fail)
    conv => whnf
  rw [beq_len hB]
  repeat' ((conv => whnf); first | refine ngo ?_ | refine VB.tt ?_ | refine VB.ff ?_ | refine VNew.keep ?_ | refine dgo ?_ | refine sgo ?_ | fail)
  conv => whnf
  by_cases hC : C = 0
  · rw [show (((dg C).length : Int) == 0) = true by rw [hC, dg_zero]; rfl]
    repeat' ((conv => whnf); first | refine ngo ?_ | refine VB.tt ?_ | refine VB.ff ?_ | refine VNew.keep ?_ | refine dgo ?_ | refine sgo ?_ | fail)
    conv => whnf
    refine VCall.i (ndiv_nil (by omega)) ?_
    repeat' ((conv => whnf); first | refine ngo ?_ | refine VB.tt ?_ | refine VB.ff ?_ | refine VNew.keep ?_ | refine dgo ?_ | refine sgo ?_ | fail)
    conv => whnf
    refine VCall.s (awake_c) ?_
    repeat' ((conv => whnf); first | refine ngo ?_ | refine VB.tt ?_ | refine VB.ff ?_ | refine VNew.keep ?_ | refine dgo ?_ | refine sgo ?_ | fail)
    conv => whnf
  rw [beq_len hC]
  repeat' ((conv => whnf); first | refine VB.tt ?_ | refine VB.ff ?_ | refine VNew.keep ?_ | refine dgo ?_ | refine sgo ?_ | fail)
  conv => whnf
  exact VNext.at_ true ⟨[(7, natv A), (8, natv B), (9, natv C)], [], []⟩ ⟨⟨rfl, rfl, rfl, trivial⟩, rfl, rfl⟩ (divides_main hA hB hC (by omega) (by omega) (by omega))
end Go.Proofs.Ytcdnonggajoghaa
