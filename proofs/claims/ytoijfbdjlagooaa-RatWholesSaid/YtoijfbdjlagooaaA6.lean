/- The program logic and the contracts that a law leans on, part 6. -/
import Derived.Test.YtoijfbdjlagooaaA5
import Derived.Test.YtoijfbdjlagooaaA4

/- Contracts: the document's checks of fractions; calls over two fractions. -/
namespace Go.Proofs.Ytoijfbdjlagooaa
open Go Go.RowKit
set_option linter.unusedVariables false
set_option linter.unusedSimpArgs false
set_option maxRecDepth 100000

theorem sparts_c {num den : List Nat} (l1 : num.length < 1000000000000000000) (l2 : den.length < 1000000000000000000) : VCall EE 78 [natL num, natL den] [] fun v H => v = .int .i64 (partsQ num den) := by
  refine VCall.of_body true Try.func78 rfl (by decide) rfl ?_
  repeat' ((conv => whnf); first | refine ngo ?_ | refine VB.tt ?_ | refine VB.ff ?_ | refine VNew.keep ?_ | refine dgo ?_ | refine sgo ?_ | refine ddo ?_ | refine And.intro (Nat.le_of_ble_eq_true rfl) ?_ | (with_reducible apply VB.id; rw [bneI]) | (with_reducible apply VB.id; rw [beqI]) | (with_reducible apply VB.dt; focus omega) | (with_reducible apply VB.df; focus omega) | (with_reducible apply VB.et; focus omega) | (with_reducible apply VB.ef; focus omega) | (with_reducible apply VB.nt; focus omega) | (with_reducible apply VB.nf; focus omega) | fail)
  conv => whnf
  refine VCall.sq (rcheck_c num (by omega)) ?_
  repeat' ((conv => whnf); first | refine ngo ?_ | refine VB.tt ?_ | refine VB.ff ?_ | refine VNew.keep ?_ | refine dgo ?_ | refine sgo ?_ | refine ddo ?_ | refine And.intro (Nat.le_of_ble_eq_true rfl) ?_ | (with_reducible apply VB.id; rw [bneI]) | (with_reducible apply VB.id; rw [beqI]) | (with_reducible apply VB.dt; focus omega) | (with_reducible apply VB.df; focus omega) | (with_reducible apply VB.et; focus omega) | (with_reducible apply VB.ef; focus omega) | (with_reducible apply VB.nt; focus omega) | (with_reducible apply VB.nf; focus omega) | fail)
  conv => whnf
  refine VB.ne (fun h => ?_) (fun h => ?_)
  · repeat' ((conv => whnf); first | refine ngo ?_ | refine VB.tt ?_ | refine VB.ff ?_ | refine VNew.keep ?_ | refine dgo ?_ | refine sgo ?_ | refine ddo ?_ | refine And.intro (Nat.le_of_ble_eq_true rfl) ?_ | (with_reducible apply VB.id; rw [bneI]) | (with_reducible apply VB.id; rw [beqI]) | (with_reducible apply VB.dt; focus omega) | (with_reducible apply VB.df; focus omega) | (with_reducible apply VB.et; focus omega) | (with_reducible apply VB.ef; focus omega) | (with_reducible apply VB.nt; focus omega) | (with_reducible apply VB.nf; focus omega) | fail)
    conv => whnf
    rw [partsQ, if_neg h]
  · repeat' ((conv => whnf); first | refine ngo ?_ | refine VB.tt ?_ | refine VB.ff ?_ | refine VNew.keep ?_ | refine dgo ?_ | refine sgo ?_ | refine ddo ?_ | refine And.intro (Nat.le_of_ble_eq_true rfl) ?_ | (with_reducible apply VB.id; rw [bneI]) | (with_reducible apply VB.id; rw [beqI]) | (with_reducible apply VB.dt; focus omega) | (with_reducible apply VB.df; focus omega) | (with_reducible apply VB.et; focus omega) | (with_reducible apply VB.ef; focus omega) | (with_reducible apply VB.nt; focus omega) | (with_reducible apply VB.nf; focus omega) | fail)
    conv => whnf
    refine VCall.sq (rcheck_c den (by omega)) ?_
    repeat' ((conv => whnf); first | refine ngo ?_ | refine VB.tt ?_ | refine VB.ff ?_ | refine VNew.keep ?_ | refine dgo ?_ | refine sgo ?_ | refine ddo ?_ | refine And.intro (Nat.le_of_ble_eq_true rfl) ?_ | (with_reducible apply VB.id; rw [bneI]) | (with_reducible apply VB.id; rw [beqI]) | (with_reducible apply VB.dt; focus omega) | (with_reducible apply VB.df; focus omega) | (with_reducible apply VB.et; focus omega) | (with_reducible apply VB.ef; focus omega) | (with_reducible apply VB.nt; focus omega) | (with_reducible apply VB.nf; focus omega) | fail)
    conv => whnf
    refine VB.ne (fun h2 => ?_) (fun h2 => ?_)
    · repeat' ((conv => whnf); first | refine ngo ?_ | refine VB.tt ?_ | refine VB.ff ?_ | refine VNew.keep ?_ | refine dgo ?_ | refine sgo ?_ | refine ddo ?_ | refine And.intro (Nat.le_of_ble_eq_true rfl) ?_ | (with_reducible apply VB.id; rw [bneI]) | (with_reducible apply VB.id; rw [beqI]) | (with_reducible apply VB.dt; focus omega) | (with_reducible apply VB.df; focus omega) | (with_reducible apply VB.et; focus omega) | (with_reducible apply VB.ef; focus omega) | (with_reducible apply VB.nt; focus omega) | (with_reducible apply VB.nf; focus omega) | fail)
      conv => whnf
      rw [partsQ, if_pos h, if_neg h2]
    · obtain ⟨c2, m2⟩ := chk_zero h2
      repeat' ((conv => whnf); first | refine ngo ?_ | refine VB.tt ?_ | refine VB.ff ?_ | refine VNew.keep ?_ | refine dgo ?_ | refine sgo ?_ | refine ddo ?_ | refine And.intro (Nat.le_of_ble_eq_true rfl) ?_ | (with_reducible apply VB.id; rw [bneI]) | (with_reducible apply VB.id; rw [beqI]) | (with_reducible apply VB.dt; focus omega) | (with_reducible apply VB.df; focus omega) | (with_reducible apply VB.et; focus omega) | (with_reducible apply VB.ef; focus omega) | (with_reducible apply VB.nt; focus omega) | (with_reducible apply VB.nf; focus omega) | fail)
      conv => whnf
      refine VB.eq (fun h3 => ?_) (fun h3 => ?_)
      · have : den = [] := List.length_eq_zero_iff.1 (by omega)
        repeat' ((conv => whnf); first | refine ngo ?_ | refine VB.tt ?_ | refine VB.ff ?_ | refine VNew.keep ?_ | refine dgo ?_ | refine sgo ?_ | refine ddo ?_ | refine And.intro (Nat.le_of_ble_eq_true rfl) ?_ | (with_reducible apply VB.id; rw [bneI]) | (with_reducible apply VB.id; rw [beqI]) | (with_reducible apply VB.dt; focus omega) | (with_reducible apply VB.df; focus omega) | (with_reducible apply VB.et; focus omega) | (with_reducible apply VB.ef; focus omega) | (with_reducible apply VB.nt; focus omega) | (with_reducible apply VB.nf; focus omega) | fail)
        conv => whnf
        rw [partsQ, if_pos h, if_pos h2, if_pos this]
      · have h3' : den ≠ [] := fun e => h3 (by rw [e]; rfl)
        repeat' ((conv => whnf); first | refine ngo ?_ | refine VB.tt ?_ | refine VB.ff ?_ | refine VNew.keep ?_ | refine dgo ?_ | refine sgo ?_ | refine ddo ?_ | refine And.intro (Nat.le_of_ble_eq_true rfl) ?_ | (with_reducible apply VB.id; rw [bneI]) | (with_reducible apply VB.id; rw [beqI]) | (with_reducible apply VB.dt; focus omega) | (with_reducible apply VB.df; focus omega) | (with_reducible apply VB.et; focus omega) | (with_reducible apply VB.ef; focus omega) | (with_reducible apply VB.nt; focus omega) | (with_reducible apply VB.nf; focus omega) | fail)
        conv => whnf
        rw [partsQ, if_pos h, if_pos h2, if_neg h3']

theorem one_iff {g : Nat} : ((dg g).length = 1 ∧ (dg g).getD 0 0 = 1) ↔ g = 1 := by
  constructor
  · rintro ⟨h1, h2⟩
    obtain ⟨x, hx⟩ := List.length_eq_one_iff.1 h1
    have := val_dg g
    rw [hx] at this h2
    simp [val] at this h2
    omega
  · rintro rfl
    rw [dg_pos (by decide), show 1 / BB = 0 from rfl, dg_zero]
    exact ⟨rfl, rfl⟩

theorem scheck_raw {neg : Bool} {num den : List Nat} (l1 : num.length < 1000000000000000000) (l2 : den.length < 1000000000000000000) : VCall EE 31 [.agg [.bool neg, natL num, natL den]] [] fun v H => v = .int .i64 (chkQ ⟨neg, num, den⟩) := by
  refine VCall.of_body true Try.func31 rfl (by decide) rfl ?_
  repeat' ((conv => whnf); first | refine ngo ?_ | refine VB.tt ?_ | refine VB.ff ?_ | refine VNew.keep ?_ | refine dgo ?_ | refine sgo ?_ | refine ddo ?_ | refine And.intro (Nat.le_of_ble_eq_true rfl) ?_ | (with_reducible apply VB.id; rw [bneI]) | (with_reducible apply VB.id; rw [beqI]) | (with_reducible apply VB.dt; focus omega) | (with_reducible apply VB.df; focus omega) | (with_reducible apply VB.et; focus omega) | (with_reducible apply VB.ef; focus omega) | (with_reducible apply VB.nt; focus omega) | (with_reducible apply VB.nf; focus omega) | fail)
  conv => whnf
  refine VCall.sq (sparts_c l1 l2) ?_
  repeat' ((conv => whnf); first | refine ngo ?_ | refine VB.tt ?_ | refine VB.ff ?_ | refine VNew.keep ?_ | refine dgo ?_ | refine sgo ?_ | refine ddo ?_ | refine And.intro (Nat.le_of_ble_eq_true rfl) ?_ | (with_reducible apply VB.id; rw [bneI]) | (with_reducible apply VB.id; rw [beqI]) | (with_reducible apply VB.dt; focus omega) | (with_reducible apply VB.df; focus omega) | (with_reducible apply VB.et; focus omega) | (with_reducible apply VB.ef; focus omega) | (with_reducible apply VB.nt; focus omega) | (with_reducible apply VB.nf; focus omega) | fail)
  conv => whnf
  refine VB.ne (fun h => ?_) (fun h => ?_)
  · repeat' ((conv => whnf); first | refine ngo ?_ | refine VB.tt ?_ | refine VB.ff ?_ | refine VNew.keep ?_ | refine dgo ?_ | refine sgo ?_ | refine ddo ?_ | refine And.intro (Nat.le_of_ble_eq_true rfl) ?_ | (with_reducible apply VB.id; rw [bneI]) | (with_reducible apply VB.id; rw [beqI]) | (with_reducible apply VB.dt; focus omega) | (with_reducible apply VB.df; focus omega) | (with_reducible apply VB.et; focus omega) | (with_reducible apply VB.ef; focus omega) | (with_reducible apply VB.nt; focus omega) | (with_reducible apply VB.nf; focus omega) | fail)
    conv => whnf
    rw [chkQ, if_neg h]
  · obtain ⟨⟨h1, h2⟩, h3⟩ := partsQ_zero h
    obtain ⟨c1, m1⟩ := chk_zero h1
    obtain ⟨c2, m2⟩ := chk_zero h2
    have hcm := rcommon_n (a := val num) (b := val den) (by rw [dg_val c1]; omega) (by rw [dg_val c2]; omega)
    rw [← canon_natL c1, ← canon_natL c2] at hcm
    have ho := one_iff (g := Nat.gcd (val num) (val den))
    have hq : chkQ ⟨neg, num, den⟩ = if Nat.gcd (val num) (val den) = 1 ∧ (neg = true → num ≠ []) then 0 else 3 := by rw [chkQ, if_pos h]
    rw [hq]
    clear hq
    by_cases hn : num = []
    · subst hn
      cases neg
      · repeat' ((conv => whnf); first | refine ngo ?_ | refine VB.tt ?_ | refine VB.ff ?_ | refine VNew.keep ?_ | refine dgo ?_ | refine sgo ?_ | refine ddo ?_ | refine And.intro (Nat.le_of_ble_eq_true rfl) ?_ | (with_reducible apply VB.id; rw [bneI]) | (with_reducible apply VB.id; rw [beqI]) | (with_reducible apply VB.dt; focus omega) | (with_reducible apply VB.df; focus omega) | (with_reducible apply VB.et; focus omega) | (with_reducible apply VB.ef; focus omega) | (with_reducible apply VB.nt; focus omega) | (with_reducible apply VB.nf; focus omega) | fail)
        conv => whnf
        refine VCall.sq (hcm) ?_
        repeat' ((conv => whnf); first | refine ngo ?_ | refine VB.tt ?_ | refine VB.ff ?_ | refine VNew.keep ?_ | refine dgo ?_ | refine sgo ?_ | refine ddo ?_ | refine And.intro (Nat.le_of_ble_eq_true rfl) ?_ | (with_reducible apply VB.id; rw [bneI]) | (with_reducible apply VB.id; rw [beqI]) | (with_reducible apply VB.dt; focus omega) | (with_reducible apply VB.df; focus omega) | (with_reducible apply VB.et; focus omega) | (with_reducible apply VB.ef; focus omega) | (with_reducible apply VB.nt; focus omega) | (with_reducible apply VB.nf; focus omega) | fail)
        conv => whnf
        by_cases e1 : (dg (Nat.gcd (val ([] : List Nat)) (val den))).length = 1
        · rw [show (((dg (Nat.gcd (val ([] : List Nat)) (val den))).length : Int) != 1) = false by simp [e1]]
          repeat' ((conv => whnf); first | refine ngo ?_ | refine VB.tt ?_ | refine VB.ff ?_ | refine VNew.keep ?_ | refine dgo ?_ | refine sgo ?_ | refine ddo ?_ | refine And.intro (Nat.le_of_ble_eq_true rfl) ?_ | (with_reducible apply VB.id; rw [bneI]) | (with_reducible apply VB.id; rw [beqI]) | (with_reducible apply VB.dt; focus omega) | (with_reducible apply VB.df; focus omega) | (with_reducible apply VB.et; focus omega) | (with_reducible apply VB.ef; focus omega) | (with_reducible apply VB.nt; focus omega) | (with_reducible apply VB.nf; focus omega) | fail)
          conv => whnf
          refine VCall.sq (hcm) ?_
          repeat' ((conv => whnf); first | refine ngo ?_ | refine VB.tt ?_ | refine VB.ff ?_ | refine VNew.keep ?_ | refine dgo ?_ | refine sgo ?_ | refine ddo ?_ | refine And.intro (Nat.le_of_ble_eq_true rfl) ?_ | (with_reducible apply VB.id; rw [bneI]) | (with_reducible apply VB.id; rw [beqI]) | (with_reducible apply VB.dt; focus omega) | (with_reducible apply VB.df; focus omega) | (with_reducible apply VB.et; focus omega) | (with_reducible apply VB.ef; focus omega) | (with_reducible apply VB.nt; focus omega) | (with_reducible apply VB.nf; focus omega) | fail)
          conv => whnf
          rw [Int.toNat_zero, Nat.zero_mul, getInt_limbs]
          by_cases e2 : (dg (Nat.gcd (val ([] : List Nat)) (val den))).getD 0 0 = 1
          · rw [show ((((dg (Nat.gcd (val ([] : List Nat)) (val den))).getD 0 0 : Nat) : Int) != 1) = false by rw [e2]; rfl]
            have hg1 := ho.1 ⟨e1, e2⟩
            repeat' ((conv => whnf); first | refine ngo ?_ | refine VB.tt ?_ | refine VB.ff ?_ | refine VNew.keep ?_ | refine dgo ?_ | refine sgo ?_ | refine ddo ?_ | refine And.intro (Nat.le_of_ble_eq_true rfl) ?_ | (with_reducible apply VB.id; rw [bneI]) | (with_reducible apply VB.id; rw [beqI]) | (with_reducible apply VB.dt; focus omega) | (with_reducible apply VB.df; focus omega) | (with_reducible apply VB.et; focus omega) | (with_reducible apply VB.ef; focus omega) | (with_reducible apply VB.nt; focus omega) | (with_reducible apply VB.nf; focus omega) | fail)
            conv => whnf
            rw [if_pos ⟨hg1, fun e => by cases e⟩]
          · rw [show ((((dg (Nat.gcd (val ([] : List Nat)) (val den))).getD 0 0 : Nat) : Int) != 1) = true by rw [bne_iff_ne]; omega]
            repeat' ((conv => whnf); first | refine ngo ?_ | refine VB.tt ?_ | refine VB.ff ?_ | refine VNew.keep ?_ | refine dgo ?_ | refine sgo ?_ | refine ddo ?_ | refine And.intro (Nat.le_of_ble_eq_true rfl) ?_ | (with_reducible apply VB.id; rw [bneI]) | (with_reducible apply VB.id; rw [beqI]) | (with_reducible apply VB.dt; focus omega) | (with_reducible apply VB.df; focus omega) | (with_reducible apply VB.et; focus omega) | (with_reducible apply VB.ef; focus omega) | (with_reducible apply VB.nt; focus omega) | (with_reducible apply VB.nf; focus omega) | fail)
            conv => whnf
            rw [if_neg (fun e => e2 (ho.2 e.1).2)]
        · rw [show (((dg (Nat.gcd (val ([] : List Nat)) (val den))).length : Int) != 1) = true by rw [bne_iff_ne]; omega]
          repeat' ((conv => whnf); first | refine ngo ?_ | refine VB.tt ?_ | refine VB.ff ?_ | refine VNew.keep ?_ | refine dgo ?_ | refine sgo ?_ | refine ddo ?_ | refine And.intro (Nat.le_of_ble_eq_true rfl) ?_ | (with_reducible apply VB.id; rw [bneI]) | (with_reducible apply VB.id; rw [beqI]) | (with_reducible apply VB.dt; focus omega) | (with_reducible apply VB.df; focus omega) | (with_reducible apply VB.et; focus omega) | (with_reducible apply VB.ef; focus omega) | (with_reducible apply VB.nt; focus omega) | (with_reducible apply VB.nf; focus omega) | fail)
          conv => whnf
          rw [if_neg (fun e => e1 (ho.2 e.1).1)]
      · repeat' ((conv => whnf); first | refine ngo ?_ | refine VB.tt ?_ | refine VB.ff ?_ | refine VNew.keep ?_ | refine dgo ?_ | refine sgo ?_ | refine ddo ?_ | refine And.intro (Nat.le_of_ble_eq_true rfl) ?_ | (with_reducible apply VB.id; rw [bneI]) | (with_reducible apply VB.id; rw [beqI]) | (with_reducible apply VB.dt; focus omega) | (with_reducible apply VB.df; focus omega) | (with_reducible apply VB.et; focus omega) | (with_reducible apply VB.ef; focus omega) | (with_reducible apply VB.nt; focus omega) | (with_reducible apply VB.nf; focus omega) | fail)
        conv => whnf
        refine VCall.sq (hcm) ?_
        repeat' ((conv => whnf); first | refine ngo ?_ | refine VB.tt ?_ | refine VB.ff ?_ | refine VNew.keep ?_ | refine dgo ?_ | refine sgo ?_ | refine ddo ?_ | refine And.intro (Nat.le_of_ble_eq_true rfl) ?_ | (with_reducible apply VB.id; rw [bneI]) | (with_reducible apply VB.id; rw [beqI]) | (with_reducible apply VB.dt; focus omega) | (with_reducible apply VB.df; focus omega) | (with_reducible apply VB.et; focus omega) | (with_reducible apply VB.ef; focus omega) | (with_reducible apply VB.nt; focus omega) | (with_reducible apply VB.nf; focus omega) | fail)
        conv => whnf
        by_cases e1 : (dg (Nat.gcd (val ([] : List Nat)) (val den))).length = 1
        · rw [show (((dg (Nat.gcd (val ([] : List Nat)) (val den))).length : Int) != 1) = false by simp [e1]]
          repeat' ((conv => whnf); first | refine ngo ?_ | refine VB.tt ?_ | refine VB.ff ?_ | refine VNew.keep ?_ | refine dgo ?_ | refine sgo ?_ | refine ddo ?_ | refine And.intro (Nat.le_of_ble_eq_true rfl) ?_ | (with_reducible apply VB.id; rw [bneI]) | (with_reducible apply VB.id; rw [beqI]) | (with_reducible apply VB.dt; focus omega) | (with_reducible apply VB.df; focus omega) | (with_reducible apply VB.et; focus omega) | (with_reducible apply VB.ef; focus omega) | (with_reducible apply VB.nt; focus omega) | (with_reducible apply VB.nf; focus omega) | fail)
          conv => whnf
          refine VCall.sq (hcm) ?_
          repeat' ((conv => whnf); first | refine ngo ?_ | refine VB.tt ?_ | refine VB.ff ?_ | refine VNew.keep ?_ | refine dgo ?_ | refine sgo ?_ | refine ddo ?_ | refine And.intro (Nat.le_of_ble_eq_true rfl) ?_ | (with_reducible apply VB.id; rw [bneI]) | (with_reducible apply VB.id; rw [beqI]) | (with_reducible apply VB.dt; focus omega) | (with_reducible apply VB.df; focus omega) | (with_reducible apply VB.et; focus omega) | (with_reducible apply VB.ef; focus omega) | (with_reducible apply VB.nt; focus omega) | (with_reducible apply VB.nf; focus omega) | fail)
          conv => whnf
          rw [Int.toNat_zero, Nat.zero_mul, getInt_limbs]
          by_cases e2 : (dg (Nat.gcd (val ([] : List Nat)) (val den))).getD 0 0 = 1
          · rw [show ((((dg (Nat.gcd (val ([] : List Nat)) (val den))).getD 0 0 : Nat) : Int) != 1) = false by rw [e2]; rfl]
            have hg1 := ho.1 ⟨e1, e2⟩
            repeat' ((conv => whnf); first | refine ngo ?_ | refine VB.tt ?_ | refine VB.ff ?_ | refine VNew.keep ?_ | refine dgo ?_ | refine sgo ?_ | refine ddo ?_ | refine And.intro (Nat.le_of_ble_eq_true rfl) ?_ | (with_reducible apply VB.id; rw [bneI]) | (with_reducible apply VB.id; rw [beqI]) | (with_reducible apply VB.dt; focus omega) | (with_reducible apply VB.df; focus omega) | (with_reducible apply VB.et; focus omega) | (with_reducible apply VB.ef; focus omega) | (with_reducible apply VB.nt; focus omega) | (with_reducible apply VB.nf; focus omega) | fail)
            conv => whnf
            rw [if_neg (fun e => e.2 rfl rfl)]
          · rw [show ((((dg (Nat.gcd (val ([] : List Nat)) (val den))).getD 0 0 : Nat) : Int) != 1) = true by rw [bne_iff_ne]; omega]
            repeat' ((conv => whnf); first | refine ngo ?_ | refine VB.tt ?_ | refine VB.ff ?_ | refine VNew.keep ?_ | refine dgo ?_ | refine sgo ?_ | refine ddo ?_ | refine And.intro (Nat.le_of_ble_eq_true rfl) ?_ | (with_reducible apply VB.id; rw [bneI]) | (with_reducible apply VB.id; rw [beqI]) | (with_reducible apply VB.dt; focus omega) | (with_reducible apply VB.df; focus omega) | (with_reducible apply VB.et; focus omega) | (with_reducible apply VB.ef; focus omega) | (with_reducible apply VB.nt; focus omega) | (with_reducible apply VB.nf; focus omega) | fail)
            conv => whnf
            rw [if_neg (fun e => e2 (ho.2 e.1).2)]
        · rw [show (((dg (Nat.gcd (val ([] : List Nat)) (val den))).length : Int) != 1) = true by rw [bne_iff_ne]; omega]
          repeat' ((conv => whnf); first | refine ngo ?_ | refine VB.tt ?_ | refine VB.ff ?_ | refine VNew.keep ?_ | refine dgo ?_ | refine sgo ?_ | refine ddo ?_ | refine And.intro (Nat.le_of_ble_eq_true rfl) ?_ | (with_reducible apply VB.id; rw [bneI]) | (with_reducible apply VB.id; rw [beqI]) | (with_reducible apply VB.dt; focus omega) | (with_reducible apply VB.df; focus omega) | (with_reducible apply VB.et; focus omega) | (with_reducible apply VB.ef; focus omega) | (with_reducible apply VB.nt; focus omega) | (with_reducible apply VB.nf; focus omega) | fail)
          conv => whnf
          rw [if_neg (fun e => e1 (ho.2 e.1).1)]
    · have hn2 : (num.length : Int) ≠ 0 := fun e => hn (List.length_eq_zero_iff.1 (by omega))
      cases neg
      · repeat' ((conv => whnf); first | refine ngo ?_ | refine VB.tt ?_ | refine VB.ff ?_ | refine VNew.keep ?_ | refine dgo ?_ | refine sgo ?_ | refine ddo ?_ | refine And.intro (Nat.le_of_ble_eq_true rfl) ?_ | (with_reducible apply VB.id; rw [bneI]) | (with_reducible apply VB.id; rw [beqI]) | (with_reducible apply VB.dt; focus omega) | (with_reducible apply VB.df; focus omega) | (with_reducible apply VB.et; focus omega) | (with_reducible apply VB.ef; focus omega) | (with_reducible apply VB.nt; focus omega) | (with_reducible apply VB.nf; focus omega) | fail)
        conv => whnf
        refine VCall.sq (hcm) ?_
        repeat' ((conv => whnf); first | refine ngo ?_ | refine VB.tt ?_ | refine VB.ff ?_ | refine VNew.keep ?_ | refine dgo ?_ | refine sgo ?_ | refine ddo ?_ | refine And.intro (Nat.le_of_ble_eq_true rfl) ?_ | (with_reducible apply VB.id; rw [bneI]) | (with_reducible apply VB.id; rw [beqI]) | (with_reducible apply VB.dt; focus omega) | (with_reducible apply VB.df; focus omega) | (with_reducible apply VB.et; focus omega) | (with_reducible apply VB.ef; focus omega) | (with_reducible apply VB.nt; focus omega) | (with_reducible apply VB.nf; focus omega) | fail)
        conv => whnf
        by_cases e1 : (dg (Nat.gcd (val num) (val den))).length = 1
        · rw [show (((dg (Nat.gcd (val num) (val den))).length : Int) != 1) = false by simp [e1]]
          repeat' ((conv => whnf); first | refine ngo ?_ | refine VB.tt ?_ | refine VB.ff ?_ | refine VNew.keep ?_ | refine dgo ?_ | refine sgo ?_ | refine ddo ?_ | refine And.intro (Nat.le_of_ble_eq_true rfl) ?_ | (with_reducible apply VB.id; rw [bneI]) | (with_reducible apply VB.id; rw [beqI]) | (with_reducible apply VB.dt; focus omega) | (with_reducible apply VB.df; focus omega) | (with_reducible apply VB.et; focus omega) | (with_reducible apply VB.ef; focus omega) | (with_reducible apply VB.nt; focus omega) | (with_reducible apply VB.nf; focus omega) | fail)
          conv => whnf
          refine VCall.sq (hcm) ?_
          repeat' ((conv => whnf); first | refine ngo ?_ | refine VB.tt ?_ | refine VB.ff ?_ | refine VNew.keep ?_ | refine dgo ?_ | refine sgo ?_ | refine ddo ?_ | refine And.intro (Nat.le_of_ble_eq_true rfl) ?_ | (with_reducible apply VB.id; rw [bneI]) | (with_reducible apply VB.id; rw [beqI]) | (with_reducible apply VB.dt; focus omega) | (with_reducible apply VB.df; focus omega) | (with_reducible apply VB.et; focus omega) | (with_reducible apply VB.ef; focus omega) | (with_reducible apply VB.nt; focus omega) | (with_reducible apply VB.nf; focus omega) | fail)
          conv => whnf
          rw [Int.toNat_zero, Nat.zero_mul, getInt_limbs]
          by_cases e2 : (dg (Nat.gcd (val num) (val den))).getD 0 0 = 1
          · rw [show ((((dg (Nat.gcd (val num) (val den))).getD 0 0 : Nat) : Int) != 1) = false by rw [e2]; rfl]
            have hg1 := ho.1 ⟨e1, e2⟩
            repeat' ((conv => whnf); first | refine ngo ?_ | refine VB.tt ?_ | refine VB.ff ?_ | refine VNew.keep ?_ | refine dgo ?_ | refine sgo ?_ | refine ddo ?_ | refine And.intro (Nat.le_of_ble_eq_true rfl) ?_ | (with_reducible apply VB.id; rw [bneI]) | (with_reducible apply VB.id; rw [beqI]) | (with_reducible apply VB.dt; focus omega) | (with_reducible apply VB.df; focus omega) | (with_reducible apply VB.et; focus omega) | (with_reducible apply VB.ef; focus omega) | (with_reducible apply VB.nt; focus omega) | (with_reducible apply VB.nf; focus omega) | fail)
            conv => whnf
            rw [if_pos ⟨hg1, fun e => by cases e⟩]
          · rw [show ((((dg (Nat.gcd (val num) (val den))).getD 0 0 : Nat) : Int) != 1) = true by rw [bne_iff_ne]; omega]
            repeat' ((conv => whnf); first | refine ngo ?_ | refine VB.tt ?_ | refine VB.ff ?_ | refine VNew.keep ?_ | refine dgo ?_ | refine sgo ?_ | refine ddo ?_ | refine And.intro (Nat.le_of_ble_eq_true rfl) ?_ | (with_reducible apply VB.id; rw [bneI]) | (with_reducible apply VB.id; rw [beqI]) | (with_reducible apply VB.dt; focus omega) | (with_reducible apply VB.df; focus omega) | (with_reducible apply VB.et; focus omega) | (with_reducible apply VB.ef; focus omega) | (with_reducible apply VB.nt; focus omega) | (with_reducible apply VB.nf; focus omega) | fail)
            conv => whnf
            rw [if_neg (fun e => e2 (ho.2 e.1).2)]
        · rw [show (((dg (Nat.gcd (val num) (val den))).length : Int) != 1) = true by rw [bne_iff_ne]; omega]
          repeat' ((conv => whnf); first | refine ngo ?_ | refine VB.tt ?_ | refine VB.ff ?_ | refine VNew.keep ?_ | refine dgo ?_ | refine sgo ?_ | refine ddo ?_ | refine And.intro (Nat.le_of_ble_eq_true rfl) ?_ | (with_reducible apply VB.id; rw [bneI]) | (with_reducible apply VB.id; rw [beqI]) | (with_reducible apply VB.dt; focus omega) | (with_reducible apply VB.df; focus omega) | (with_reducible apply VB.et; focus omega) | (with_reducible apply VB.ef; focus omega) | (with_reducible apply VB.nt; focus omega) | (with_reducible apply VB.nf; focus omega) | fail)
          conv => whnf
          rw [if_neg (fun e => e1 (ho.2 e.1).1)]
      · repeat' ((conv => whnf); first | refine ngo ?_ | refine VB.tt ?_ | refine VB.ff ?_ | refine VNew.keep ?_ | refine dgo ?_ | refine sgo ?_ | refine ddo ?_ | refine And.intro (Nat.le_of_ble_eq_true rfl) ?_ | (with_reducible apply VB.id; rw [bneI]) | (with_reducible apply VB.id; rw [beqI]) | (with_reducible apply VB.dt; focus omega) | (with_reducible apply VB.df; focus omega) | (with_reducible apply VB.et; focus omega) | (with_reducible apply VB.ef; focus omega) | (with_reducible apply VB.nt; focus omega) | (with_reducible apply VB.nf; focus omega) | fail)
        conv => whnf
        refine VCall.sq (hcm) ?_
        repeat' ((conv => whnf); first | refine ngo ?_ | refine VB.tt ?_ | refine VB.ff ?_ | refine VNew.keep ?_ | refine dgo ?_ | refine sgo ?_ | refine ddo ?_ | refine And.intro (Nat.le_of_ble_eq_true rfl) ?_ | (with_reducible apply VB.id; rw [bneI]) | (with_reducible apply VB.id; rw [beqI]) | (with_reducible apply VB.dt; focus omega) | (with_reducible apply VB.df; focus omega) | (with_reducible apply VB.et; focus omega) | (with_reducible apply VB.ef; focus omega) | (with_reducible apply VB.nt; focus omega) | (with_reducible apply VB.nf; focus omega) | fail)
        conv => whnf
        by_cases e1 : (dg (Nat.gcd (val num) (val den))).length = 1
        · rw [show (((dg (Nat.gcd (val num) (val den))).length : Int) != 1) = false by simp [e1]]
          repeat' ((conv => whnf); first | refine ngo ?_ | refine VB.tt ?_ | refine VB.ff ?_ | refine VNew.keep ?_ | refine dgo ?_ | refine sgo ?_ | refine ddo ?_ | refine And.intro (Nat.le_of_ble_eq_true rfl) ?_ | (with_reducible apply VB.id; rw [bneI]) | (with_reducible apply VB.id; rw [beqI]) | (with_reducible apply VB.dt; focus omega) | (with_reducible apply VB.df; focus omega) | (with_reducible apply VB.et; focus omega) | (with_reducible apply VB.ef; focus omega) | (with_reducible apply VB.nt; focus omega) | (with_reducible apply VB.nf; focus omega) | fail)
          conv => whnf
          refine VCall.sq (hcm) ?_
          repeat' ((conv => whnf); first | refine ngo ?_ | refine VB.tt ?_ | refine VB.ff ?_ | refine VNew.keep ?_ | refine dgo ?_ | refine sgo ?_ | refine ddo ?_ | refine And.intro (Nat.le_of_ble_eq_true rfl) ?_ | (with_reducible apply VB.id; rw [bneI]) | (with_reducible apply VB.id; rw [beqI]) | (with_reducible apply VB.dt; focus omega) | (with_reducible apply VB.df; focus omega) | (with_reducible apply VB.et; focus omega) | (with_reducible apply VB.ef; focus omega) | (with_reducible apply VB.nt; focus omega) | (with_reducible apply VB.nf; focus omega) | fail)
          conv => whnf
          rw [Int.toNat_zero, Nat.zero_mul, getInt_limbs]
          by_cases e2 : (dg (Nat.gcd (val num) (val den))).getD 0 0 = 1
          · rw [show ((((dg (Nat.gcd (val num) (val den))).getD 0 0 : Nat) : Int) != 1) = false by rw [e2]; rfl]
            have hg1 := ho.1 ⟨e1, e2⟩
            repeat' ((conv => whnf); first | refine ngo ?_ | refine VB.tt ?_ | refine VB.ff ?_ | refine VNew.keep ?_ | refine dgo ?_ | refine sgo ?_ | refine ddo ?_ | refine And.intro (Nat.le_of_ble_eq_true rfl) ?_ | (with_reducible apply VB.id; rw [bneI]) | (with_reducible apply VB.id; rw [beqI]) | (with_reducible apply VB.dt; focus omega) | (with_reducible apply VB.df; focus omega) | (with_reducible apply VB.et; focus omega) | (with_reducible apply VB.ef; focus omega) | (with_reducible apply VB.nt; focus omega) | (with_reducible apply VB.nf; focus omega) | fail)
            conv => whnf
            rw [if_pos ⟨hg1, fun _ => hn⟩]
          · rw [show ((((dg (Nat.gcd (val num) (val den))).getD 0 0 : Nat) : Int) != 1) = true by rw [bne_iff_ne]; omega]
            repeat' ((conv => whnf); first | refine ngo ?_ | refine VB.tt ?_ | refine VB.ff ?_ | refine VNew.keep ?_ | refine dgo ?_ | refine sgo ?_ | refine ddo ?_ | refine And.intro (Nat.le_of_ble_eq_true rfl) ?_ | (with_reducible apply VB.id; rw [bneI]) | (with_reducible apply VB.id; rw [beqI]) | (with_reducible apply VB.dt; focus omega) | (with_reducible apply VB.df; focus omega) | (with_reducible apply VB.et; focus omega) | (with_reducible apply VB.ef; focus omega) | (with_reducible apply VB.nt; focus omega) | (with_reducible apply VB.nf; focus omega) | fail)
            conv => whnf
            rw [if_neg (fun e => e2 (ho.2 e.1).2)]
        · rw [show (((dg (Nat.gcd (val num) (val den))).length : Int) != 1) = true by rw [bne_iff_ne]; omega]
          repeat' ((conv => whnf); first | refine ngo ?_ | refine VB.tt ?_ | refine VB.ff ?_ | refine VNew.keep ?_ | refine dgo ?_ | refine sgo ?_ | refine ddo ?_ | refine And.intro (Nat.le_of_ble_eq_true rfl) ?_ | (with_reducible apply VB.id; rw [bneI]) | (with_reducible apply VB.id; rw [beqI]) | (with_reducible apply VB.dt; focus omega) | (with_reducible apply VB.df; focus omega) | (with_reducible apply VB.et; focus omega) | (with_reducible apply VB.ef; focus omega) | (with_reducible apply VB.nt; focus omega) | (with_reducible apply VB.nf; focus omega) | fail)
          conv => whnf
          rw [if_neg (fun e => e1 (ho.2 e.1).1)]

theorem sfits_c (q : Rat) (hl : rl q < 1000000000) : VCall EE 56 [ratV q] [] fun v H => Fz H 0 [] v (outQ (ovf q) q) := by
  refine VCall.of_body true Try.func56 rfl (by decide) rfl ?_
  have h1 := rl_num q
  have h2 := rl_den q
  have h3 : rl q = max (dg q.num.natAbs).length (dg q.den).length := rfl
  repeat' ((conv => whnf); first | refine ngo ?_ | refine VB.tt ?_ | refine VB.ff ?_ | refine VNew.keep ?_ | refine dgo ?_ | refine sgo ?_ | refine ddo ?_ | refine And.intro (Nat.le_of_ble_eq_true rfl) ?_ | (with_reducible apply VB.id; rw [bneI]) | (with_reducible apply VB.id; rw [beqI]) | (with_reducible apply VB.dt; focus omega) | (with_reducible apply VB.df; focus omega) | (with_reducible apply VB.et; focus omega) | (with_reducible apply VB.ef; focus omega) | (with_reducible apply VB.nt; focus omega) | (with_reducible apply VB.nf; focus omega) | fail)
  conv => whnf
  refine VCall.iq (rfits_c (n := q.num.natAbs) (by omega)) ?_
  repeat' ((conv => whnf); first | refine ngo ?_ | refine VB.tt ?_ | refine VB.ff ?_ | refine VNew.keep ?_ | refine dgo ?_ | refine sgo ?_ | refine ddo ?_ | refine And.intro (Nat.le_of_ble_eq_true rfl) ?_ | (with_reducible apply VB.id; rw [bneI]) | (with_reducible apply VB.id; rw [beqI]) | (with_reducible apply VB.dt; focus omega) | (with_reducible apply VB.df; focus omega) | (with_reducible apply VB.et; focus omega) | (with_reducible apply VB.ef; focus omega) | (with_reducible apply VB.nt; focus omega) | (with_reducible apply VB.nf; focus omega) | fail)
  conv => whnf
  refine VCall.iq (rfits_c (n := q.den) (by omega)) ?_
  repeat' ((conv => whnf); first | refine ngo ?_ | refine VB.tt ?_ | refine VB.ff ?_ | refine VNew.keep ?_ | refine dgo ?_ | refine sgo ?_ | refine ddo ?_ | refine And.intro (Nat.le_of_ble_eq_true rfl) ?_ | (with_reducible apply VB.id; rw [bneI]) | (with_reducible apply VB.id; rw [beqI]) | (with_reducible apply VB.dt; focus omega) | (with_reducible apply VB.df; focus omega) | (with_reducible apply VB.et; focus omega) | (with_reducible apply VB.ef; focus omega) | (with_reducible apply VB.nt; focus omega) | (with_reducible apply VB.nf; focus omega) | fail)
  conv => whnf
  by_cases ha : 1024 < (dg q.num.natAbs).length
  · rw [if_pos ha, if_pos ha]
    repeat' ((conv => whnf); first | refine ngo ?_ | refine VB.tt ?_ | refine VB.ff ?_ | refine VNew.keep ?_ | refine dgo ?_ | refine sgo ?_ | refine ddo ?_ | refine And.intro (Nat.le_of_ble_eq_true rfl) ?_ | (with_reducible apply VB.id; rw [bneI]) | (with_reducible apply VB.id; rw [beqI]) | (with_reducible apply VB.dt; focus omega) | (with_reducible apply VB.df; focus omega) | (with_reducible apply VB.et; focus omega) | (with_reducible apply VB.ef; focus omega) | (with_reducible apply VB.nt; focus omega) | (with_reducible apply VB.nf; focus omega) | fail)
    conv => whnf
    rw [ovf, if_pos (by omega), outQ, outR, if_neg (by decide)]
    exact .tup (.cons (.agg (.cons (.same rfl trivial) (.cons .nsl (.cons .nsl .nil)))) (.cons (.same rfl trivial) .nil))
  · rw [if_neg ha, if_neg ha]
    repeat' ((conv => whnf); first | refine ngo ?_ | refine VB.tt ?_ | refine VB.ff ?_ | refine VNew.keep ?_ | refine dgo ?_ | refine sgo ?_ | refine ddo ?_ | refine And.intro (Nat.le_of_ble_eq_true rfl) ?_ | (with_reducible apply VB.id; rw [bneI]) | (with_reducible apply VB.id; rw [beqI]) | (with_reducible apply VB.dt; focus omega) | (with_reducible apply VB.df; focus omega) | (with_reducible apply VB.et; focus omega) | (with_reducible apply VB.ef; focus omega) | (with_reducible apply VB.nt; focus omega) | (with_reducible apply VB.nf; focus omega) | fail)
    conv => whnf
    by_cases hb : 1024 < (dg q.den).length
    · rw [if_pos hb, if_pos hb]
      repeat' ((conv => whnf); first | refine ngo ?_ | refine VB.tt ?_ | refine VB.ff ?_ | refine VNew.keep ?_ | refine dgo ?_ | refine sgo ?_ | refine ddo ?_ | refine And.intro (Nat.le_of_ble_eq_true rfl) ?_ | (with_reducible apply VB.id; rw [bneI]) | (with_reducible apply VB.id; rw [beqI]) | (with_reducible apply VB.dt; focus omega) | (with_reducible apply VB.df; focus omega) | (with_reducible apply VB.et; focus omega) | (with_reducible apply VB.ef; focus omega) | (with_reducible apply VB.nt; focus omega) | (with_reducible apply VB.nf; focus omega) | fail)
      conv => whnf
      rw [ovf, if_pos (by omega), outQ, outR, if_neg (by decide)]
      exact .tup (.cons (.agg (.cons (.same rfl trivial) (.cons .nsl (.cons .nsl .nil)))) (.cons (.same rfl trivial) .nil))
    · rw [if_neg hb, if_neg hb]
      repeat' ((conv => whnf); first | refine ngo ?_ | refine VB.tt ?_ | refine VB.ff ?_ | refine VNew.keep ?_ | refine dgo ?_ | refine sgo ?_ | refine ddo ?_ | refine And.intro (Nat.le_of_ble_eq_true rfl) ?_ | (with_reducible apply VB.id; rw [bneI]) | (with_reducible apply VB.id; rw [beqI]) | (with_reducible apply VB.dt; focus omega) | (with_reducible apply VB.df; focus omega) | (with_reducible apply VB.et; focus omega) | (with_reducible apply VB.ef; focus omega) | (with_reducible apply VB.nt; focus omega) | (with_reducible apply VB.nf; focus omega) | fail)
      conv => whnf
      rw [ovf, if_neg (by omega), outQ, outR, if_pos rfl]
      exact .tup (.cons (.same rfl (low_ratV 0 _)) (.cons (.same rfl trivial) .nil))

theorem sboth_c (a b : RawQ) (la : lenQ a 1000000000000000000) (lb : lenQ b 1000000000000000000) : VCall EE 54 [rawV a, rawV b] [] fun v H => v = .int .i64 (bothQ a b) := by
  refine VCall.of_body true Try.func54 rfl (by decide) rfl ?_
  repeat' ((conv => whnf); first | refine ngo ?_ | refine VB.tt ?_ | refine VB.ff ?_ | refine VNew.keep ?_ | refine dgo ?_ | refine sgo ?_ | refine ddo ?_ | refine And.intro (Nat.le_of_ble_eq_true rfl) ?_ | (with_reducible apply VB.id; rw [bneI]) | (with_reducible apply VB.id; rw [beqI]) | (with_reducible apply VB.dt; focus omega) | (with_reducible apply VB.df; focus omega) | (with_reducible apply VB.et; focus omega) | (with_reducible apply VB.ef; focus omega) | (with_reducible apply VB.nt; focus omega) | (with_reducible apply VB.nf; focus omega) | fail)
  conv => whnf
  refine VCall.sq (scheck_raw la.1 la.2) ?_
  repeat' ((conv => whnf); first | refine ngo ?_ | refine VB.tt ?_ | refine VB.ff ?_ | refine VNew.keep ?_ | refine dgo ?_ | refine sgo ?_ | refine ddo ?_ | refine And.intro (Nat.le_of_ble_eq_true rfl) ?_ | (with_reducible apply VB.id; rw [bneI]) | (with_reducible apply VB.id; rw [beqI]) | (with_reducible apply VB.dt; focus omega) | (with_reducible apply VB.df; focus omega) | (with_reducible apply VB.et; focus omega) | (with_reducible apply VB.ef; focus omega) | (with_reducible apply VB.nt; focus omega) | (with_reducible apply VB.nf; focus omega) | fail)
  conv => whnf
  refine VB.ne (fun h => ?_) (fun h => ?_)
  · repeat' ((conv => whnf); first | refine ngo ?_ | refine VB.tt ?_ | refine VB.ff ?_ | refine VNew.keep ?_ | refine dgo ?_ | refine sgo ?_ | refine ddo ?_ | refine And.intro (Nat.le_of_ble_eq_true rfl) ?_ | (with_reducible apply VB.id; rw [bneI]) | (with_reducible apply VB.id; rw [beqI]) | (with_reducible apply VB.dt; focus omega) | (with_reducible apply VB.df; focus omega) | (with_reducible apply VB.et; focus omega) | (with_reducible apply VB.ef; focus omega) | (with_reducible apply VB.nt; focus omega) | (with_reducible apply VB.nf; focus omega) | fail)
    conv => whnf
    rw [bothQ, if_neg h]
  · repeat' ((conv => whnf); first | refine ngo ?_ | refine VB.tt ?_ | refine VB.ff ?_ | refine VNew.keep ?_ | refine dgo ?_ | refine sgo ?_ | refine ddo ?_ | refine And.intro (Nat.le_of_ble_eq_true rfl) ?_ | (with_reducible apply VB.id; rw [bneI]) | (with_reducible apply VB.id; rw [beqI]) | (with_reducible apply VB.dt; focus omega) | (with_reducible apply VB.df; focus omega) | (with_reducible apply VB.et; focus omega) | (with_reducible apply VB.ef; focus omega) | (with_reducible apply VB.nt; focus omega) | (with_reducible apply VB.nf; focus omega) | fail)
    conv => whnf
    refine VCall.sq (scheck_raw lb.1 lb.2) ?_
    repeat' ((conv => whnf); first | refine ngo ?_ | refine VB.tt ?_ | refine VB.ff ?_ | refine VNew.keep ?_ | refine dgo ?_ | refine sgo ?_ | refine ddo ?_ | refine And.intro (Nat.le_of_ble_eq_true rfl) ?_ | (with_reducible apply VB.id; rw [bneI]) | (with_reducible apply VB.id; rw [beqI]) | (with_reducible apply VB.dt; focus omega) | (with_reducible apply VB.df; focus omega) | (with_reducible apply VB.et; focus omega) | (with_reducible apply VB.ef; focus omega) | (with_reducible apply VB.nt; focus omega) | (with_reducible apply VB.nf; focus omega) | fail)
    conv => whnf
    rw [bothQ, if_pos h]

theorem foldq_c {a b : RawQ} {g : FuncId} {e : Int} {q : Rat} (la : lenQ a 1000000000000000000) (lb : lenQ b 1000000000000000000) (hg : bothQ a b = 0 → VCall EE g [rawV a, rawV b] [] fun v H => Fz H 0 [] v (outQ e q)) :
    VCall EE 47 [.agg (rawC a ++ rawC b), .fn (.func g) [] []] [] fun v H => Fz H 0 [] v (outQ (if bothQ a b = 0 then e else bothQ a b) q) := by
  refine VCall.of_body true Try.func47 rfl (by decide) rfl ?_
  repeat' ((conv => whnf); first | refine ngo ?_ | refine VB.tt ?_ | refine VB.ff ?_ | refine VNew.keep ?_ | refine dgo ?_ | refine sgo ?_ | refine ddo ?_ | refine And.intro (Nat.le_of_ble_eq_true rfl) ?_ | (with_reducible apply VB.id; rw [bneI]) | (with_reducible apply VB.id; rw [beqI]) | (with_reducible apply VB.dt; focus omega) | (with_reducible apply VB.df; focus omega) | (with_reducible apply VB.et; focus omega) | (with_reducible apply VB.ef; focus omega) | (with_reducible apply VB.nt; focus omega) | (with_reducible apply VB.nf; focus omega) | fail)
  conv => whnf
  refine VLoop.tr true (fun i : Nat => ⟨[(1, .fn (.func g) [] []), (2, .ptr 0 0 0), (4, .ptr 1 0 0), (6, .ptr 2 0 0), (14, .agg (rawC a ++ rawC b)), (15, .int .i64 i)], [.cells 0 59 (rawC a ++ rawC b), .cells 0 25 [.bool false, .nsl, .nsl], .cells 0 25 [.bool false, .nsl, .nsl]], []⟩) (fun i => i = 0 ∨ (i = 1 ∧ chkQ a = 0) ∨ (i = 2 ∧ bothQ a b = 0)) (fun i => 2 - i) 0 (.inl rfl) ⟨⟨rfl, rfl, rfl, rfl, rfl, rfl, trivial⟩, rfl, rfl⟩ ?_
  rintro i (rfl | ⟨rfl, h1⟩ | ⟨rfl, h1⟩)
  · repeat' ((conv => whnf); first | refine ngo ?_ | refine VB.tt ?_ | refine VB.ff ?_ | refine VNew.keep ?_ | refine dgo ?_ | refine sgo ?_ | refine ddo ?_ | refine And.intro (Nat.le_of_ble_eq_true rfl) ?_ | (with_reducible apply VB.id; rw [bneI]) | (with_reducible apply VB.id; rw [beqI]) | (with_reducible apply VB.dt; focus omega) | (with_reducible apply VB.df; focus omega) | (with_reducible apply VB.et; focus omega) | (with_reducible apply VB.ef; focus omega) | (with_reducible apply VB.nt; focus omega) | (with_reducible apply VB.nf; focus omega) | fail)
    conv => whnf
    refine VCall.sq (qcheck_raw la.1 la.2) ?_
    repeat' ((conv => whnf); first | refine ngo ?_ | refine VB.tt ?_ | refine VB.ff ?_ | refine VNew.keep ?_ | refine dgo ?_ | refine sgo ?_ | refine ddo ?_ | refine And.intro (Nat.le_of_ble_eq_true rfl) ?_ | (with_reducible apply VB.id; rw [bneI]) | (with_reducible apply VB.id; rw [beqI]) | (with_reducible apply VB.dt; focus omega) | (with_reducible apply VB.df; focus omega) | (with_reducible apply VB.et; focus omega) | (with_reducible apply VB.ef; focus omega) | (with_reducible apply VB.nt; focus omega) | (with_reducible apply VB.nf; focus omega) | fail)
    conv => whnf
    refine VB.ne (fun h => ?_) (fun h => ?_)
    · repeat' ((conv => whnf); first | refine ngo ?_ | refine VB.tt ?_ | refine VB.ff ?_ | refine VNew.keep ?_ | refine dgo ?_ | refine sgo ?_ | refine ddo ?_ | refine And.intro (Nat.le_of_ble_eq_true rfl) ?_ | (with_reducible apply VB.id; rw [bneI]) | (with_reducible apply VB.id; rw [beqI]) | (with_reducible apply VB.dt; focus omega) | (with_reducible apply VB.df; focus omega) | (with_reducible apply VB.et; focus omega) | (with_reducible apply VB.ef; focus omega) | (with_reducible apply VB.nt; focus omega) | (with_reducible apply VB.nf; focus omega) | fail)
      conv => whnf
      rw [show bothQ a b = chkQ a by rw [bothQ, if_neg h], if_neg h]
      (rw [outQ, outR, if_neg h]; exact .tup (.cons (.agg (.cons (.same rfl trivial) (.cons .nsl (.cons .nsl .nil)))) (.cons (.same rfl trivial) .nil)))
    · repeat' ((conv => whnf); first | refine ngo ?_ | refine VB.tt ?_ | refine VB.ff ?_ | refine VNew.keep ?_ | refine dgo ?_ | refine sgo ?_ | refine ddo ?_ | refine And.intro (Nat.le_of_ble_eq_true rfl) ?_ | (with_reducible apply VB.id; rw [bneI]) | (with_reducible apply VB.id; rw [beqI]) | (with_reducible apply VB.dt; focus omega) | (with_reducible apply VB.df; focus omega) | (with_reducible apply VB.et; focus omega) | (with_reducible apply VB.ef; focus omega) | (with_reducible apply VB.nt; focus omega) | (with_reducible apply VB.nf; focus omega) | fail)
      conv => whnf
      refine ⟨1, .inr (.inl ⟨rfl, h⟩), by omega, [], by simp, by simp, ⟨⟨_, rfl, .cells rfl (FzL.same rfl (lowL_append (low_rawV _ a) (low_rawV _ b)))⟩, ⟨_, rfl, .cells rfl (FzL.same rfl ⟨trivial, trivial, trivial, trivial⟩)⟩, ⟨_, rfl, .cells rfl (FzL.same rfl ⟨trivial, trivial, trivial, trivial⟩)⟩, trivial⟩, ⟨⟨_, rfl, .same rfl ⟨trivial, trivial⟩⟩, ⟨_, rfl, .same rfl (by show (0 : Nat) < 3; decide)⟩, ⟨_, rfl, .same rfl (by show (1 : Nat) < 3; decide)⟩, ⟨_, rfl, .same rfl (by show (2 : Nat) < 3; decide)⟩, ⟨_, rfl, .same rfl (lowL_append (low_rawV _ a) (low_rawV _ b))⟩, ⟨_, rfl, .same rfl trivial⟩, trivial⟩, rfl, by simp⟩
  · repeat' ((conv => whnf); first | refine ngo ?_ | refine VB.tt ?_ | refine VB.ff ?_ | refine VNew.keep ?_ | refine dgo ?_ | refine sgo ?_ | refine ddo ?_ | refine And.intro (Nat.le_of_ble_eq_true rfl) ?_ | (with_reducible apply VB.id; rw [bneI]) | (with_reducible apply VB.id; rw [beqI]) | (with_reducible apply VB.dt; focus omega) | (with_reducible apply VB.df; focus omega) | (with_reducible apply VB.et; focus omega) | (with_reducible apply VB.ef; focus omega) | (with_reducible apply VB.nt; focus omega) | (with_reducible apply VB.nf; focus omega) | fail)
    conv => whnf
    refine VCall.sq (qcheck_raw lb.1 lb.2) ?_
    repeat' ((conv => whnf); first | refine ngo ?_ | refine VB.tt ?_ | refine VB.ff ?_ | refine VNew.keep ?_ | refine dgo ?_ | refine sgo ?_ | refine ddo ?_ | refine And.intro (Nat.le_of_ble_eq_true rfl) ?_ | (with_reducible apply VB.id; rw [bneI]) | (with_reducible apply VB.id; rw [beqI]) | (with_reducible apply VB.dt; focus omega) | (with_reducible apply VB.df; focus omega) | (with_reducible apply VB.et; focus omega) | (with_reducible apply VB.ef; focus omega) | (with_reducible apply VB.nt; focus omega) | (with_reducible apply VB.nf; focus omega) | fail)
    conv => whnf
    refine VB.ne (fun h => ?_) (fun h => ?_)
    · repeat' ((conv => whnf); first | refine ngo ?_ | refine VB.tt ?_ | refine VB.ff ?_ | refine VNew.keep ?_ | refine dgo ?_ | refine sgo ?_ | refine ddo ?_ | refine And.intro (Nat.le_of_ble_eq_true rfl) ?_ | (with_reducible apply VB.id; rw [bneI]) | (with_reducible apply VB.id; rw [beqI]) | (with_reducible apply VB.dt; focus omega) | (with_reducible apply VB.df; focus omega) | (with_reducible apply VB.et; focus omega) | (with_reducible apply VB.ef; focus omega) | (with_reducible apply VB.nt; focus omega) | (with_reducible apply VB.nf; focus omega) | fail)
      conv => whnf
      rw [show bothQ a b = chkQ b by rw [bothQ, if_pos h1], if_neg h]
      (rw [outQ, outR, if_neg h]; exact .tup (.cons (.agg (.cons (.same rfl trivial) (.cons .nsl (.cons .nsl .nil)))) (.cons (.same rfl trivial) .nil)))
    · repeat' ((conv => whnf); first | refine ngo ?_ | refine VB.tt ?_ | refine VB.ff ?_ | refine VNew.keep ?_ | refine dgo ?_ | refine sgo ?_ | refine ddo ?_ | refine And.intro (Nat.le_of_ble_eq_true rfl) ?_ | (with_reducible apply VB.id; rw [bneI]) | (with_reducible apply VB.id; rw [beqI]) | (with_reducible apply VB.dt; focus omega) | (with_reducible apply VB.df; focus omega) | (with_reducible apply VB.et; focus omega) | (with_reducible apply VB.ef; focus omega) | (with_reducible apply VB.nt; focus omega) | (with_reducible apply VB.nf; focus omega) | fail)
      conv => whnf
      refine ⟨2, .inr (.inr ⟨rfl, by rw [bothQ, if_pos h1]; exact h⟩), by omega, [], by simp, by simp, ⟨⟨_, rfl, .cells rfl (FzL.same rfl (lowL_append (low_rawV _ a) (low_rawV _ b)))⟩, ⟨_, rfl, .cells rfl (FzL.same rfl ⟨trivial, trivial, trivial, trivial⟩)⟩, ⟨_, rfl, .cells rfl (FzL.same rfl ⟨trivial, trivial, trivial, trivial⟩)⟩, trivial⟩, ⟨⟨_, rfl, .same rfl ⟨trivial, trivial⟩⟩, ⟨_, rfl, .same rfl (by show (0 : Nat) < 3; decide)⟩, ⟨_, rfl, .same rfl (by show (1 : Nat) < 3; decide)⟩, ⟨_, rfl, .same rfl (by show (2 : Nat) < 3; decide)⟩, ⟨_, rfl, .same rfl (lowL_append (low_rawV _ a) (low_rawV _ b))⟩, ⟨_, rfl, .same rfl trivial⟩, trivial⟩, rfl, by simp⟩
  · have hg := hg h1
    rw [if_pos h1]
    repeat' ((conv => whnf); first | refine ngo ?_ | refine VB.tt ?_ | refine VB.ff ?_ | refine VNew.keep ?_ | refine dgo ?_ | refine sgo ?_ | refine ddo ?_ | refine And.intro (Nat.le_of_ble_eq_true rfl) ?_ | (with_reducible apply VB.id; rw [bneI]) | (with_reducible apply VB.id; rw [beqI]) | (with_reducible apply VB.dt; focus omega) | (with_reducible apply VB.df; focus omega) | (with_reducible apply VB.et; focus omega) | (with_reducible apply VB.ef; focus omega) | (with_reducible apply VB.nt; focus omega) | (with_reducible apply VB.nf; focus omega) | fail)
    conv => whnf
    refine VCall.iq (hg) ?_
    repeat' ((conv => whnf); first | refine ngo ?_ | refine VB.tt ?_ | refine VB.ff ?_ | refine VNew.keep ?_ | refine dgo ?_ | refine sgo ?_ | refine ddo ?_ | refine And.intro (Nat.le_of_ble_eq_true rfl) ?_ | (with_reducible apply VB.id; rw [bneI]) | (with_reducible apply VB.id; rw [beqI]) | (with_reducible apply VB.dt; focus omega) | (with_reducible apply VB.df; focus omega) | (with_reducible apply VB.et; focus omega) | (with_reducible apply VB.ef; focus omega) | (with_reducible apply VB.nt; focus omega) | (with_reducible apply VB.nf; focus omega) | fail)
    conv => whnf
    exact .same rfl (low_outQ 0 _ _)

def outC (a b : RawQ) (c : Int) : AV := .tup [.int .i64 (if bothQ a b = 0 then c else 0), .int .i64 (bothQ a b)]
theorem low_outC (n : Nat) (a b : RawQ) (c : Int) : (outC a b c).low n := ⟨trivial, trivial, trivial⟩
theorem foldi_c {a b : RawQ} {g : FuncId} {c : Int} (la : lenQ a 1000000000000000000) (lb : lenQ b 1000000000000000000) (hg : bothQ a b = 0 → VCall EE g [rawV a, rawV b] [] fun v H => v = .tup [.int .i64 c, .int .i64 0]) :
    VCall EE 60 [.agg (rawC a ++ rawC b), .fn (.func g) [] []] [] fun v H => v = outC a b c := by
  refine VCall.of_body true Try.func60 rfl (by decide) rfl ?_
  repeat' ((conv => whnf); first | refine ngo ?_ | refine VB.tt ?_ | refine VB.ff ?_ | refine VNew.keep ?_ | refine dgo ?_ | refine sgo ?_ | refine ddo ?_ | refine And.intro (Nat.le_of_ble_eq_true rfl) ?_ | (with_reducible apply VB.id; rw [bneI]) | (with_reducible apply VB.id; rw [beqI]) | (with_reducible apply VB.dt; focus omega) | (with_reducible apply VB.df; focus omega) | (with_reducible apply VB.et; focus omega) | (with_reducible apply VB.ef; focus omega) | (with_reducible apply VB.nt; focus omega) | (with_reducible apply VB.nf; focus omega) | fail)
  conv => whnf
  refine VLoop.tr true (fun i : Nat => ⟨[(1, .fn (.func g) [] []), (2, .ptr 0 0 0), (4, .int .i64 0), (6, .int .i64 0), (14, .agg (rawC a ++ rawC b)), (15, .int .i64 i)], [.cells 0 59 (rawC a ++ rawC b)], []⟩) (fun i => i = 0 ∨ (i = 1 ∧ chkQ a = 0) ∨ (i = 2 ∧ bothQ a b = 0)) (fun i => 2 - i) 0 (.inl rfl) ⟨⟨rfl, rfl, rfl, rfl, rfl, rfl, trivial⟩, rfl, rfl⟩ ?_
  rintro i (rfl | ⟨rfl, h1⟩ | ⟨rfl, h1⟩)
  · repeat' ((conv => whnf); first | refine ngo ?_ | refine VB.tt ?_ | refine VB.ff ?_ | refine VNew.keep ?_ | refine dgo ?_ | refine sgo ?_ | refine ddo ?_ | refine And.intro (Nat.le_of_ble_eq_true rfl) ?_ | (with_reducible apply VB.id; rw [bneI]) | (with_reducible apply VB.id; rw [beqI]) | (with_reducible apply VB.dt; focus omega) | (with_reducible apply VB.df; focus omega) | (with_reducible apply VB.et; focus omega) | (with_reducible apply VB.ef; focus omega) | (with_reducible apply VB.nt; focus omega) | (with_reducible apply VB.nf; focus omega) | fail)
    conv => whnf
    refine VCall.sq (qcheck_raw la.1 la.2) ?_
    repeat' ((conv => whnf); first | refine ngo ?_ | refine VB.tt ?_ | refine VB.ff ?_ | refine VNew.keep ?_ | refine dgo ?_ | refine sgo ?_ | refine ddo ?_ | refine And.intro (Nat.le_of_ble_eq_true rfl) ?_ | (with_reducible apply VB.id; rw [bneI]) | (with_reducible apply VB.id; rw [beqI]) | (with_reducible apply VB.dt; focus omega) | (with_reducible apply VB.df; focus omega) | (with_reducible apply VB.et; focus omega) | (with_reducible apply VB.ef; focus omega) | (with_reducible apply VB.nt; focus omega) | (with_reducible apply VB.nf; focus omega) | fail)
    conv => whnf
    refine VB.ne (fun h => ?_) (fun h => ?_)
    · repeat' ((conv => whnf); first | refine ngo ?_ | refine VB.tt ?_ | refine VB.ff ?_ | refine VNew.keep ?_ | refine dgo ?_ | refine sgo ?_ | refine ddo ?_ | refine And.intro (Nat.le_of_ble_eq_true rfl) ?_ | (with_reducible apply VB.id; rw [bneI]) | (with_reducible apply VB.id; rw [beqI]) | (with_reducible apply VB.dt; focus omega) | (with_reducible apply VB.df; focus omega) | (with_reducible apply VB.et; focus omega) | (with_reducible apply VB.ef; focus omega) | (with_reducible apply VB.nt; focus omega) | (with_reducible apply VB.nf; focus omega) | fail)
      conv => whnf
      have hb : bothQ a b = chkQ a := by rw [bothQ, if_neg h]
      rw [outC, hb, if_neg h]
    · repeat' ((conv => whnf); first | refine ngo ?_ | refine VB.tt ?_ | refine VB.ff ?_ | refine VNew.keep ?_ | refine dgo ?_ | refine sgo ?_ | refine ddo ?_ | refine And.intro (Nat.le_of_ble_eq_true rfl) ?_ | (with_reducible apply VB.id; rw [bneI]) | (with_reducible apply VB.id; rw [beqI]) | (with_reducible apply VB.dt; focus omega) | (with_reducible apply VB.df; focus omega) | (with_reducible apply VB.et; focus omega) | (with_reducible apply VB.ef; focus omega) | (with_reducible apply VB.nt; focus omega) | (with_reducible apply VB.nf; focus omega) | fail)
      conv => whnf
      refine ⟨1, .inr (.inl ⟨rfl, h⟩), by omega, [], by simp, by simp, ⟨⟨_, rfl, .cells rfl (FzL.same rfl (lowL_append (low_rawV _ a) (low_rawV _ b)))⟩, trivial⟩, ⟨⟨_, rfl, .same rfl ⟨trivial, trivial⟩⟩, ⟨_, rfl, .same rfl (by show (0 : Nat) < 1; decide)⟩, ⟨_, rfl, .same rfl trivial⟩, ⟨_, rfl, .same rfl trivial⟩, ⟨_, rfl, .same rfl (lowL_append (low_rawV _ a) (low_rawV _ b))⟩, ⟨_, rfl, .same rfl trivial⟩, trivial⟩, rfl, by simp⟩
  · repeat' ((conv => whnf); first | refine ngo ?_ | refine VB.tt ?_ | refine VB.ff ?_ | refine VNew.keep ?_ | refine dgo ?_ | refine sgo ?_ | refine ddo ?_ | refine And.intro (Nat.le_of_ble_eq_true rfl) ?_ | (with_reducible apply VB.id; rw [bneI]) | (with_reducible apply VB.id; rw [beqI]) | (with_reducible apply VB.dt; focus omega) | (with_reducible apply VB.df; focus omega) | (with_reducible apply VB.et; focus omega) | (with_reducible apply VB.ef; focus omega) | (with_reducible apply VB.nt; focus omega) | (with_reducible apply VB.nf; focus omega) | fail)
    conv => whnf
    refine VCall.sq (qcheck_raw lb.1 lb.2) ?_
    repeat' ((conv => whnf); first | refine ngo ?_ | refine VB.tt ?_ | refine VB.ff ?_ | refine VNew.keep ?_ | refine dgo ?_ | refine sgo ?_ | refine ddo ?_ | refine And.intro (Nat.le_of_ble_eq_true rfl) ?_ | (with_reducible apply VB.id; rw [bneI]) | (with_reducible apply VB.id; rw [beqI]) | (with_reducible apply VB.dt; focus omega) | (with_reducible apply VB.df; focus omega) | (with_reducible apply VB.et; focus omega) | (with_reducible apply VB.ef; focus omega) | (with_reducible apply VB.nt; focus omega) | (with_reducible apply VB.nf; focus omega) | fail)
    conv => whnf
    have hb : bothQ a b = chkQ b := by rw [bothQ, if_pos h1]
    refine VB.ne (fun h => ?_) (fun h => ?_)
    · repeat' ((conv => whnf); first | refine ngo ?_ | refine VB.tt ?_ | refine VB.ff ?_ | refine VNew.keep ?_ | refine dgo ?_ | refine sgo ?_ | refine ddo ?_ | refine And.intro (Nat.le_of_ble_eq_true rfl) ?_ | (with_reducible apply VB.id; rw [bneI]) | (with_reducible apply VB.id; rw [beqI]) | (with_reducible apply VB.dt; focus omega) | (with_reducible apply VB.df; focus omega) | (with_reducible apply VB.et; focus omega) | (with_reducible apply VB.ef; focus omega) | (with_reducible apply VB.nt; focus omega) | (with_reducible apply VB.nf; focus omega) | fail)
      conv => whnf
      rw [outC, hb, if_neg h]
    · repeat' ((conv => whnf); first | refine ngo ?_ | refine VB.tt ?_ | refine VB.ff ?_ | refine VNew.keep ?_ | refine dgo ?_ | refine sgo ?_ | refine ddo ?_ | refine And.intro (Nat.le_of_ble_eq_true rfl) ?_ | (with_reducible apply VB.id; rw [bneI]) | (with_reducible apply VB.id; rw [beqI]) | (with_reducible apply VB.dt; focus omega) | (with_reducible apply VB.df; focus omega) | (with_reducible apply VB.et; focus omega) | (with_reducible apply VB.ef; focus omega) | (with_reducible apply VB.nt; focus omega) | (with_reducible apply VB.nf; focus omega) | fail)
      conv => whnf
      refine ⟨2, .inr (.inr ⟨rfl, by rw [hb]; exact h⟩), by omega, [], by simp, by simp, ⟨⟨_, rfl, .cells rfl (FzL.same rfl (lowL_append (low_rawV _ a) (low_rawV _ b)))⟩, trivial⟩, ⟨⟨_, rfl, .same rfl ⟨trivial, trivial⟩⟩, ⟨_, rfl, .same rfl (by show (0 : Nat) < 1; decide)⟩, ⟨_, rfl, .same rfl trivial⟩, ⟨_, rfl, .same rfl trivial⟩, ⟨_, rfl, .same rfl (lowL_append (low_rawV _ a) (low_rawV _ b))⟩, ⟨_, rfl, .same rfl trivial⟩, trivial⟩, rfl, by simp⟩
  · have hg := hg h1
    repeat' ((conv => whnf); first | refine ngo ?_ | refine VB.tt ?_ | refine VB.ff ?_ | refine VNew.keep ?_ | refine dgo ?_ | refine sgo ?_ | refine ddo ?_ | refine And.intro (Nat.le_of_ble_eq_true rfl) ?_ | (with_reducible apply VB.id; rw [bneI]) | (with_reducible apply VB.id; rw [beqI]) | (with_reducible apply VB.dt; focus omega) | (with_reducible apply VB.df; focus omega) | (with_reducible apply VB.et; focus omega) | (with_reducible apply VB.ef; focus omega) | (with_reducible apply VB.nt; focus omega) | (with_reducible apply VB.nf; focus omega) | fail)
    conv => whnf
    refine VCall.sq (hg) ?_
    repeat' ((conv => whnf); first | refine ngo ?_ | refine VB.tt ?_ | refine VB.ff ?_ | refine VNew.keep ?_ | refine dgo ?_ | refine sgo ?_ | refine ddo ?_ | refine And.intro (Nat.le_of_ble_eq_true rfl) ?_ | (with_reducible apply VB.id; rw [bneI]) | (with_reducible apply VB.id; rw [beqI]) | (with_reducible apply VB.dt; focus omega) | (with_reducible apply VB.df; focus omega) | (with_reducible apply VB.et; focus omega) | (with_reducible apply VB.ef; focus omega) | (with_reducible apply VB.nt; focus omega) | (with_reducible apply VB.nf; focus omega) | fail)
    conv => whnf
    rw [outC, if_pos h1, h1]
end Go.Proofs.Ytoijfbdjlagooaa


/- Contracts: sums, differences, products, quotients and order of the document's fractions, the program's and its own. -/
namespace Go.Proofs.Ytoijfbdjlagooaa
open Go Go.RowKit
set_option linter.unusedVariables false
set_option linter.unusedSimpArgs false
set_option maxRecDepth 100000

/-- What a call over two fractions comes to. -/
def opQ (a b : RawQ) (e : Int) (q : Rat) : AV := outQ (if bothQ a b = 0 then e else bothQ a b) q
theorem opQ_zero {a b : RawQ} (h : bothQ a b = 0) (e : Int) (q : Rat) : opQ a b e q = outQ e q := by rw [opQ, if_pos h]
theorem opQ_err {a b : RawQ} (h : bothQ a b ≠ 0) (e : Int) (q : Rat) : opQ a b e q = .tup [rawV rz, .int .i64 (bothQ a b)] := by rw [opQ, if_neg h, outQ, outR, if_neg h]
theorem fz_err {H : Heap} {e : Int} : Fz H 0 [] (.tup [.agg [.bool false, .nsl, .nsl], .int .i64 e]) (.tup [rawV rz, .int .i64 e]) :=
  .tup (.cons (.agg (.cons (.same rfl trivial) (.cons .nsl (.cons .nsl .nil)))) (.cons (.same rfl trivial) .nil))

theorem qadd1_c {a b : Rat} (la : rl a ≤ 1024) (lb : rl b ≤ 1024) : VCall EE 62 [ratV a, ratV b] [] fun v H => Fz H 0 [] v (outQ (ovf (a + b)) (a + b)) := by
  refine VCall.of_body true Try.func62 rfl (by decide) rfl ?_
  have h1 := rl_add a b
  repeat' ((conv => whnf); first | refine ngo ?_ | refine VB.tt ?_ | refine VB.ff ?_ | refine VNew.keep ?_ | refine dgo ?_ | refine sgo ?_ | refine ddo ?_ | refine And.intro (Nat.le_of_ble_eq_true rfl) ?_ | (with_reducible apply VB.id; rw [bneI]) | (with_reducible apply VB.id; rw [beqI]) | (with_reducible apply VB.dt; focus omega) | (with_reducible apply VB.df; focus omega) | (with_reducible apply VB.et; focus omega) | (with_reducible apply VB.ef; focus omega) | (with_reducible apply VB.nt; focus omega) | (with_reducible apply VB.nf; focus omega) | fail)
  conv => whnf
  refine VCall.iq (plus_c a b (by omega)) ?_
  repeat' ((conv => whnf); first | refine ngo ?_ | refine VB.tt ?_ | refine VB.ff ?_ | refine VNew.keep ?_ | refine dgo ?_ | refine sgo ?_ | refine ddo ?_ | refine And.intro (Nat.le_of_ble_eq_true rfl) ?_ | (with_reducible apply VB.id; rw [bneI]) | (with_reducible apply VB.id; rw [beqI]) | (with_reducible apply VB.dt; focus omega) | (with_reducible apply VB.df; focus omega) | (with_reducible apply VB.et; focus omega) | (with_reducible apply VB.ef; focus omega) | (with_reducible apply VB.nt; focus omega) | (with_reducible apply VB.nf; focus omega) | fail)
  conv => whnf
  refine VCall.iq (fitsq_c (a + b) (by omega)) ?_
  repeat' ((conv => whnf); first | refine ngo ?_ | refine VB.tt ?_ | refine VB.ff ?_ | refine VNew.keep ?_ | refine dgo ?_ | refine sgo ?_ | refine ddo ?_ | refine And.intro (Nat.le_of_ble_eq_true rfl) ?_ | (with_reducible apply VB.id; rw [bneI]) | (with_reducible apply VB.id; rw [beqI]) | (with_reducible apply VB.dt; focus omega) | (with_reducible apply VB.df; focus omega) | (with_reducible apply VB.et; focus omega) | (with_reducible apply VB.ef; focus omega) | (with_reducible apply VB.nt; focus omega) | (with_reducible apply VB.nf; focus omega) | fail)
  conv => whnf
  exact .same rfl (low_outQ 0 _ _)
theorem qmul1_c {a b : Rat} (la : rl a ≤ 1024) (lb : rl b ≤ 1024) : VCall EE 67 [ratV a, ratV b] [] fun v H => Fz H 0 [] v (outQ (ovf (a * b)) (a * b)) := by
  refine VCall.of_body true Try.func67 rfl (by decide) rfl ?_
  have h1 := rl_mul a b
  repeat' ((conv => whnf); first | refine ngo ?_ | refine VB.tt ?_ | refine VB.ff ?_ | refine VNew.keep ?_ | refine dgo ?_ | refine sgo ?_ | refine ddo ?_ | refine And.intro (Nat.le_of_ble_eq_true rfl) ?_ | (with_reducible apply VB.id; rw [bneI]) | (with_reducible apply VB.id; rw [beqI]) | (with_reducible apply VB.dt; focus omega) | (with_reducible apply VB.df; focus omega) | (with_reducible apply VB.et; focus omega) | (with_reducible apply VB.ef; focus omega) | (with_reducible apply VB.nt; focus omega) | (with_reducible apply VB.nf; focus omega) | fail)
  conv => whnf
  refine VCall.iq (times_c a b (by omega)) ?_
  repeat' ((conv => whnf); first | refine ngo ?_ | refine VB.tt ?_ | refine VB.ff ?_ | refine VNew.keep ?_ | refine dgo ?_ | refine sgo ?_ | refine ddo ?_ | refine And.intro (Nat.le_of_ble_eq_true rfl) ?_ | (with_reducible apply VB.id; rw [bneI]) | (with_reducible apply VB.id; rw [beqI]) | (with_reducible apply VB.dt; focus omega) | (with_reducible apply VB.df; focus omega) | (with_reducible apply VB.et; focus omega) | (with_reducible apply VB.ef; focus omega) | (with_reducible apply VB.nt; focus omega) | (with_reducible apply VB.nf; focus omega) | fail)
  conv => whnf
  refine VCall.iq (fitsq_c (a * b) (by omega)) ?_
  repeat' ((conv => whnf); first | refine ngo ?_ | refine VB.tt ?_ | refine VB.ff ?_ | refine VNew.keep ?_ | refine dgo ?_ | refine sgo ?_ | refine ddo ?_ | refine And.intro (Nat.le_of_ble_eq_true rfl) ?_ | (with_reducible apply VB.id; rw [bneI]) | (with_reducible apply VB.id; rw [beqI]) | (with_reducible apply VB.dt; focus omega) | (with_reducible apply VB.df; focus omega) | (with_reducible apply VB.et; focus omega) | (with_reducible apply VB.ef; focus omega) | (with_reducible apply VB.nt; focus omega) | (with_reducible apply VB.nf; focus omega) | fail)
  conv => whnf
  exact .same rfl (low_outQ 0 _ _)
theorem qsub1_c {a b : Rat} (la : rl a ≤ 1024) (lb : rl b ≤ 1024) : VCall EE 65 [ratV a, ratV b] [] fun v H => Fz H 0 [] v (outQ (ovf (a + -b)) (a + -b)) := by
  refine VCall.of_body true Try.func65 rfl (by decide) rfl ?_
  have h1 := rl_add a (-b)
  have h2 := rl_neg b
  repeat' ((conv => whnf); first | refine ngo ?_ | refine VB.tt ?_ | refine VB.ff ?_ | refine VNew.keep ?_ | refine dgo ?_ | refine sgo ?_ | refine ddo ?_ | refine And.intro (Nat.le_of_ble_eq_true rfl) ?_ | (with_reducible apply VB.id; rw [bneI]) | (with_reducible apply VB.id; rw [beqI]) | (with_reducible apply VB.dt; focus omega) | (with_reducible apply VB.df; focus omega) | (with_reducible apply VB.et; focus omega) | (with_reducible apply VB.ef; focus omega) | (with_reducible apply VB.nt; focus omega) | (with_reducible apply VB.nf; focus omega) | fail)
  conv => whnf
  refine VIso.iq (minus_c b (by omega)) ?_
  repeat' ((conv => whnf); first | refine ngo ?_ | refine VB.tt ?_ | refine VB.ff ?_ | refine VNew.keep ?_ | refine dgo ?_ | refine sgo ?_ | refine ddo ?_ | refine And.intro (Nat.le_of_ble_eq_true rfl) ?_ | (with_reducible apply VB.id; rw [bneI]) | (with_reducible apply VB.id; rw [beqI]) | (with_reducible apply VB.dt; focus omega) | (with_reducible apply VB.df; focus omega) | (with_reducible apply VB.et; focus omega) | (with_reducible apply VB.ef; focus omega) | (with_reducible apply VB.nt; focus omega) | (with_reducible apply VB.nf; focus omega) | fail)
  conv => whnf
  refine VIso.iq (plus_c a (-b) (by omega)) ?_
  repeat' ((conv => whnf); first | refine ngo ?_ | refine VB.tt ?_ | refine VB.ff ?_ | refine VNew.keep ?_ | refine dgo ?_ | refine sgo ?_ | refine ddo ?_ | refine And.intro (Nat.le_of_ble_eq_true rfl) ?_ | (with_reducible apply VB.id; rw [bneI]) | (with_reducible apply VB.id; rw [beqI]) | (with_reducible apply VB.dt; focus omega) | (with_reducible apply VB.df; focus omega) | (with_reducible apply VB.et; focus omega) | (with_reducible apply VB.ef; focus omega) | (with_reducible apply VB.nt; focus omega) | (with_reducible apply VB.nf; focus omega) | fail)
  conv => whnf
  refine VIso.iq (fitsq_c (a + -b) (by omega)) ?_
  repeat' ((conv => whnf); first | refine ngo ?_ | refine VB.tt ?_ | refine VB.ff ?_ | refine VNew.keep ?_ | refine dgo ?_ | refine sgo ?_ | refine ddo ?_ | refine And.intro (Nat.le_of_ble_eq_true rfl) ?_ | (with_reducible apply VB.id; rw [bneI]) | (with_reducible apply VB.id; rw [beqI]) | (with_reducible apply VB.dt; focus omega) | (with_reducible apply VB.df; focus omega) | (with_reducible apply VB.et; focus omega) | (with_reducible apply VB.ef; focus omega) | (with_reducible apply VB.nt; focus omega) | (with_reducible apply VB.nf; focus omega) | fail)
  conv => whnf
  exact .same rfl (low_outQ 0 _ _)
def divE (a b : Rat) : Int := if b = 0 then 6 else ovf (a / b)
theorem qdiv1_c {a b : Rat} (la : rl a ≤ 1024) (lb : rl b ≤ 1024) : VCall EE 70 [ratV a, ratV b] [] fun v H => Fz H 0 [] v (outQ (divE a b) (a / b)) := by
  refine VCall.of_body true Try.func70 rfl (by decide) rfl ?_
  repeat' ((conv => whnf); first | refine ngo ?_ | refine VB.tt ?_ | refine VB.ff ?_ | refine VNew.keep ?_ | refine dgo ?_ | refine sgo ?_ | refine ddo ?_ | refine And.intro (Nat.le_of_ble_eq_true rfl) ?_ | (with_reducible apply VB.id; rw [bneI]) | (with_reducible apply VB.id; rw [beqI]) | (with_reducible apply VB.dt; focus omega) | (with_reducible apply VB.df; focus omega) | (with_reducible apply VB.et; focus omega) | (with_reducible apply VB.ef; focus omega) | (with_reducible apply VB.nt; focus omega) | (with_reducible apply VB.nf; focus omega) | fail)
  conv => whnf
  refine VCall.sq (zero_c b) ?_
  repeat' ((conv => whnf); first | refine ngo ?_ | refine VB.tt ?_ | refine VB.ff ?_ | refine VNew.keep ?_ | refine dgo ?_ | refine sgo ?_ | refine ddo ?_ | refine And.intro (Nat.le_of_ble_eq_true rfl) ?_ | (with_reducible apply VB.id; rw [bneI]) | (with_reducible apply VB.id; rw [beqI]) | (with_reducible apply VB.dt; focus omega) | (with_reducible apply VB.df; focus omega) | (with_reducible apply VB.et; focus omega) | (with_reducible apply VB.ef; focus omega) | (with_reducible apply VB.nt; focus omega) | (with_reducible apply VB.nf; focus omega) | fail)
  conv => whnf
  refine VB.dec (fun h => ?_) (fun h => ?_)
  · repeat' ((conv => whnf); first | refine ngo ?_ | refine VB.tt ?_ | refine VB.ff ?_ | refine VNew.keep ?_ | refine dgo ?_ | refine sgo ?_ | refine ddo ?_ | refine And.intro (Nat.le_of_ble_eq_true rfl) ?_ | (with_reducible apply VB.id; rw [bneI]) | (with_reducible apply VB.id; rw [beqI]) | (with_reducible apply VB.dt; focus omega) | (with_reducible apply VB.df; focus omega) | (with_reducible apply VB.et; focus omega) | (with_reducible apply VB.ef; focus omega) | (with_reducible apply VB.nt; focus omega) | (with_reducible apply VB.nf; focus omega) | fail)
    conv => whnf
    rw [divE, if_pos h, outQ, outR, if_neg (by decide)]
    exact fz_err
  · have h1 := rl_over a b h
    repeat' ((conv => whnf); first | refine ngo ?_ | refine VB.tt ?_ | refine VB.ff ?_ | refine VNew.keep ?_ | refine dgo ?_ | refine sgo ?_ | refine ddo ?_ | refine And.intro (Nat.le_of_ble_eq_true rfl) ?_ | (with_reducible apply VB.id; rw [bneI]) | (with_reducible apply VB.id; rw [beqI]) | (with_reducible apply VB.dt; focus omega) | (with_reducible apply VB.df; focus omega) | (with_reducible apply VB.et; focus omega) | (with_reducible apply VB.ef; focus omega) | (with_reducible apply VB.nt; focus omega) | (with_reducible apply VB.nf; focus omega) | fail)
    conv => whnf
    refine VCall.iq (overq_c a b h (by omega)) ?_
    repeat' ((conv => whnf); first | refine ngo ?_ | refine VB.tt ?_ | refine VB.ff ?_ | refine VNew.keep ?_ | refine dgo ?_ | refine sgo ?_ | refine ddo ?_ | refine And.intro (Nat.le_of_ble_eq_true rfl) ?_ | (with_reducible apply VB.id; rw [bneI]) | (with_reducible apply VB.id; rw [beqI]) | (with_reducible apply VB.dt; focus omega) | (with_reducible apply VB.df; focus omega) | (with_reducible apply VB.et; focus omega) | (with_reducible apply VB.ef; focus omega) | (with_reducible apply VB.nt; focus omega) | (with_reducible apply VB.nf; focus omega) | fail)
    conv => whnf
    refine VCall.iq (fitsq_c (a / b) (by omega)) ?_
    repeat' ((conv => whnf); first | refine ngo ?_ | refine VB.tt ?_ | refine VB.ff ?_ | refine VNew.keep ?_ | refine dgo ?_ | refine sgo ?_ | refine ddo ?_ | refine And.intro (Nat.le_of_ble_eq_true rfl) ?_ | (with_reducible apply VB.id; rw [bneI]) | (with_reducible apply VB.id; rw [beqI]) | (with_reducible apply VB.dt; focus omega) | (with_reducible apply VB.df; focus omega) | (with_reducible apply VB.et; focus omega) | (with_reducible apply VB.ef; focus omega) | (with_reducible apply VB.nt; focus omega) | (with_reducible apply VB.nf; focus omega) | fail)
    conv => whnf
    rw [divE, if_neg h]
    exact .same rfl (low_outQ 0 _ _)
theorem qcmp1_c {a b : Rat} (la : rl a ≤ 1024) (lb : rl b ≤ 1024) : VCall EE 61 [ratV a, ratV b] [] fun v H => v = .tup [.int .i64 (cmpQ a b), .int .i64 0] := by
  refine VCall.of_body true Try.func61 rfl (by decide) rfl ?_
  repeat' ((conv => whnf); first | refine ngo ?_ | refine VB.tt ?_ | refine VB.ff ?_ | refine VNew.keep ?_ | refine dgo ?_ | refine sgo ?_ | refine ddo ?_ | refine And.intro (Nat.le_of_ble_eq_true rfl) ?_ | (with_reducible apply VB.id; rw [bneI]) | (with_reducible apply VB.id; rw [beqI]) | (with_reducible apply VB.dt; focus omega) | (with_reducible apply VB.df; focus omega) | (with_reducible apply VB.et; focus omega) | (with_reducible apply VB.ef; focus omega) | (with_reducible apply VB.nt; focus omega) | (with_reducible apply VB.nf; focus omega) | fail)
  conv => whnf
  refine VCall.sq (compare_c a b (by omega)) ?_
  repeat' ((conv => whnf); first | refine ngo ?_ | refine VB.tt ?_ | refine VB.ff ?_ | refine VNew.keep ?_ | refine dgo ?_ | refine sgo ?_ | refine ddo ?_ | refine And.intro (Nat.le_of_ble_eq_true rfl) ?_ | (with_reducible apply VB.id; rw [bneI]) | (with_reducible apply VB.id; rw [beqI]) | (with_reducible apply VB.dt; focus omega) | (with_reducible apply VB.df; focus omega) | (with_reducible apply VB.et; focus omega) | (with_reducible apply VB.ef; focus omega) | (with_reducible apply VB.nt; focus omega) | (with_reducible apply VB.nf; focus omega) | fail)
  conv => whnf

theorem qadd_c (a b : RawQ) (la : lenQ a 1000000000000000000) (lb : lenQ b 1000000000000000000) : VCall EE 21 [rawV a, rawV b] [] fun v H => Fz H 0 [] v (opQ a b (ovf (valQ a + valQ b)) (valQ a + valQ b)) := by
  refine VCall.of_body true Try.func21 rfl (by decide) rfl ?_
  have hf := foldq_c (g := 62) (e := ovf (valQ a + valQ b)) (q := valQ a + valQ b) la lb (fun h => by
    obtain ⟨h1, h2⟩ := bothQ_zero h
    obtain ⟨e1, l1, _⟩ := chkQ_zero h1
    obtain ⟨e2, l2, _⟩ := chkQ_zero h2
    rw [e1, e2]
    exact qadd1_c l1 l2)
  repeat' ((conv => whnf); first | refine ngo ?_ | refine VB.tt ?_ | refine VB.ff ?_ | refine VNew.keep ?_ | refine dgo ?_ | refine sgo ?_ | refine ddo ?_ | refine And.intro (Nat.le_of_ble_eq_true rfl) ?_ | (with_reducible apply VB.id; rw [bneI]) | (with_reducible apply VB.id; rw [beqI]) | (with_reducible apply VB.dt; focus omega) | (with_reducible apply VB.df; focus omega) | (with_reducible apply VB.et; focus omega) | (with_reducible apply VB.ef; focus omega) | (with_reducible apply VB.nt; focus omega) | (with_reducible apply VB.nf; focus omega) | fail)
  conv => whnf
  refine VCall.iq (hf) ?_
  repeat' ((conv => whnf); first | refine ngo ?_ | refine VB.tt ?_ | refine VB.ff ?_ | refine VNew.keep ?_ | refine dgo ?_ | refine sgo ?_ | refine ddo ?_ | refine And.intro (Nat.le_of_ble_eq_true rfl) ?_ | (with_reducible apply VB.id; rw [bneI]) | (with_reducible apply VB.id; rw [beqI]) | (with_reducible apply VB.dt; focus omega) | (with_reducible apply VB.df; focus omega) | (with_reducible apply VB.et; focus omega) | (with_reducible apply VB.ef; focus omega) | (with_reducible apply VB.nt; focus omega) | (with_reducible apply VB.nf; focus omega) | fail)
  conv => whnf
  exact .same rfl (low_outQ 0 _ _)
theorem qsub_c (a b : RawQ) (la : lenQ a 1000000000000000000) (lb : lenQ b 1000000000000000000) : VCall EE 23 [rawV a, rawV b] [] fun v H => Fz H 0 [] v (opQ a b (ovf (valQ a + -valQ b)) (valQ a + -valQ b)) := by
  refine VCall.of_body true Try.func23 rfl (by decide) rfl ?_
  have hf := foldq_c (g := 65) (e := ovf (valQ a + -valQ b)) (q := valQ a + -valQ b) la lb (fun h => by
    obtain ⟨h1, h2⟩ := bothQ_zero h
    obtain ⟨e1, l1, _⟩ := chkQ_zero h1
    obtain ⟨e2, l2, _⟩ := chkQ_zero h2
    rw [e1, e2]
    exact qsub1_c l1 l2)
  repeat' ((conv => whnf); first | refine ngo ?_ | refine VB.tt ?_ | refine VB.ff ?_ | refine VNew.keep ?_ | refine dgo ?_ | refine sgo ?_ | refine ddo ?_ | refine And.intro (Nat.le_of_ble_eq_true rfl) ?_ | (with_reducible apply VB.id; rw [bneI]) | (with_reducible apply VB.id; rw [beqI]) | (with_reducible apply VB.dt; focus omega) | (with_reducible apply VB.df; focus omega) | (with_reducible apply VB.et; focus omega) | (with_reducible apply VB.ef; focus omega) | (with_reducible apply VB.nt; focus omega) | (with_reducible apply VB.nf; focus omega) | fail)
  conv => whnf
  refine VCall.iq (hf) ?_
  repeat' ((conv => whnf); first | refine ngo ?_ | refine VB.tt ?_ | refine VB.ff ?_ | refine VNew.keep ?_ | refine dgo ?_ | refine sgo ?_ | refine ddo ?_ | refine And.intro (Nat.le_of_ble_eq_true rfl) ?_ | (with_reducible apply VB.id; rw [bneI]) | (with_reducible apply VB.id; rw [beqI]) | (with_reducible apply VB.dt; focus omega) | (with_reducible apply VB.df; focus omega) | (with_reducible apply VB.et; focus omega) | (with_reducible apply VB.ef; focus omega) | (with_reducible apply VB.nt; focus omega) | (with_reducible apply VB.nf; focus omega) | fail)
  conv => whnf
  exact .same rfl (low_outQ 0 _ _)
theorem qmul_c (a b : RawQ) (la : lenQ a 1000000000000000000) (lb : lenQ b 1000000000000000000) : VCall EE 25 [rawV a, rawV b] [] fun v H => Fz H 0 [] v (opQ a b (ovf (valQ a * valQ b)) (valQ a * valQ b)) := by
  refine VCall.of_body true Try.func25 rfl (by decide) rfl ?_
  have hf := foldq_c (g := 67) (e := ovf (valQ a * valQ b)) (q := valQ a * valQ b) la lb (fun h => by
    obtain ⟨h1, h2⟩ := bothQ_zero h
    obtain ⟨e1, l1, _⟩ := chkQ_zero h1
    obtain ⟨e2, l2, _⟩ := chkQ_zero h2
    rw [e1, e2]
    exact qmul1_c l1 l2)
  repeat' ((conv => whnf); first | refine ngo ?_ | refine VB.tt ?_ | refine VB.ff ?_ | refine VNew.keep ?_ | refine dgo ?_ | refine sgo ?_ | refine ddo ?_ | refine And.intro (Nat.le_of_ble_eq_true rfl) ?_ | (with_reducible apply VB.id; rw [bneI]) | (with_reducible apply VB.id; rw [beqI]) | (with_reducible apply VB.dt; focus omega) | (with_reducible apply VB.df; focus omega) | (with_reducible apply VB.et; focus omega) | (with_reducible apply VB.ef; focus omega) | (with_reducible apply VB.nt; focus omega) | (with_reducible apply VB.nf; focus omega) | fail)
  conv => whnf
  refine VCall.iq (hf) ?_
  repeat' ((conv => whnf); first | refine ngo ?_ | refine VB.tt ?_ | refine VB.ff ?_ | refine VNew.keep ?_ | refine dgo ?_ | refine sgo ?_ | refine ddo ?_ | refine And.intro (Nat.le_of_ble_eq_true rfl) ?_ | (with_reducible apply VB.id; rw [bneI]) | (with_reducible apply VB.id; rw [beqI]) | (with_reducible apply VB.dt; focus omega) | (with_reducible apply VB.df; focus omega) | (with_reducible apply VB.et; focus omega) | (with_reducible apply VB.ef; focus omega) | (with_reducible apply VB.nt; focus omega) | (with_reducible apply VB.nf; focus omega) | fail)
  conv => whnf
  exact .same rfl (low_outQ 0 _ _)
theorem qdiv_c (a b : RawQ) (la : lenQ a 1000000000000000000) (lb : lenQ b 1000000000000000000) : VCall EE 27 [rawV a, rawV b] [] fun v H => Fz H 0 [] v (opQ a b (divE (valQ a) (valQ b)) (valQ a / valQ b)) := by
  refine VCall.of_body true Try.func27 rfl (by decide) rfl ?_
  have hf := foldq_c (g := 70) (e := divE (valQ a) (valQ b)) (q := valQ a / valQ b) la lb (fun h => by
    obtain ⟨h1, h2⟩ := bothQ_zero h
    obtain ⟨e1, l1, _⟩ := chkQ_zero h1
    obtain ⟨e2, l2, _⟩ := chkQ_zero h2
    rw [e1, e2]
    exact qdiv1_c l1 l2)
  repeat' ((conv => whnf); first | refine ngo ?_ | refine VB.tt ?_ | refine VB.ff ?_ | refine VNew.keep ?_ | refine dgo ?_ | refine sgo ?_ | refine ddo ?_ | refine And.intro (Nat.le_of_ble_eq_true rfl) ?_ | (with_reducible apply VB.id; rw [bneI]) | (with_reducible apply VB.id; rw [beqI]) | (with_reducible apply VB.dt; focus omega) | (with_reducible apply VB.df; focus omega) | (with_reducible apply VB.et; focus omega) | (with_reducible apply VB.ef; focus omega) | (with_reducible apply VB.nt; focus omega) | (with_reducible apply VB.nf; focus omega) | fail)
  conv => whnf
  refine VCall.iq (hf) ?_
  repeat' ((conv => whnf); first | refine ngo ?_ | refine VB.tt ?_ | refine VB.ff ?_ | refine VNew.keep ?_ | refine dgo ?_ | refine sgo ?_ | refine ddo ?_ | refine And.intro (Nat.le_of_ble_eq_true rfl) ?_ | (with_reducible apply VB.id; rw [bneI]) | (with_reducible apply VB.id; rw [beqI]) | (with_reducible apply VB.dt; focus omega) | (with_reducible apply VB.df; focus omega) | (with_reducible apply VB.et; focus omega) | (with_reducible apply VB.ef; focus omega) | (with_reducible apply VB.nt; focus omega) | (with_reducible apply VB.nf; focus omega) | fail)
  conv => whnf
  exact .same rfl (low_outQ 0 _ _)
theorem qcmp_c (a b : RawQ) (la : lenQ a 1000000000000000000) (lb : lenQ b 1000000000000000000) : VCall EE 17 [rawV a, rawV b] [] fun v H => v = outC a b (cmpQ (valQ a) (valQ b)) := by
  refine VCall.of_body true Try.func17 rfl (by decide) rfl ?_
  have hf := foldi_c (g := 61) (c := cmpQ (valQ a) (valQ b)) la lb (fun h => by
    obtain ⟨h1, h2⟩ := bothQ_zero h
    obtain ⟨e1, l1, _⟩ := chkQ_zero h1
    obtain ⟨e2, l2, _⟩ := chkQ_zero h2
    rw [e1, e2]
    exact qcmp1_c l1 l2)
  repeat' ((conv => whnf); first | refine ngo ?_ | refine VB.tt ?_ | refine VB.ff ?_ | refine VNew.keep ?_ | refine dgo ?_ | refine sgo ?_ | refine ddo ?_ | refine And.intro (Nat.le_of_ble_eq_true rfl) ?_ | (with_reducible apply VB.id; rw [bneI]) | (with_reducible apply VB.id; rw [beqI]) | (with_reducible apply VB.dt; focus omega) | (with_reducible apply VB.df; focus omega) | (with_reducible apply VB.et; focus omega) | (with_reducible apply VB.ef; focus omega) | (with_reducible apply VB.nt; focus omega) | (with_reducible apply VB.nf; focus omega) | fail)
  conv => whnf
  refine VCall.sq (hf) ?_
  repeat' ((conv => whnf); first | refine ngo ?_ | refine VB.tt ?_ | refine VB.ff ?_ | refine VNew.keep ?_ | refine dgo ?_ | refine sgo ?_ | refine ddo ?_ | refine And.intro (Nat.le_of_ble_eq_true rfl) ?_ | (with_reducible apply VB.id; rw [bneI]) | (with_reducible apply VB.id; rw [beqI]) | (with_reducible apply VB.dt; focus omega) | (with_reducible apply VB.df; focus omega) | (with_reducible apply VB.et; focus omega) | (with_reducible apply VB.ef; focus omega) | (with_reducible apply VB.nt; focus omega) | (with_reducible apply VB.nf; focus omega) | fail)
  conv => whnf
  rfl

theorem sadd_c (a b : RawQ) (la : lenQ a 1000000000000000000) (lb : lenQ b 1000000000000000000) : VCall EE 22 [rawV a, rawV b] [] fun v H => Fz H 0 [] v (opQ a b (ovf (valQ a + valQ b)) (valQ a + valQ b)) := by
  refine VCall.of_body true Try.func22 rfl (by decide) rfl ?_
  repeat' ((conv => whnf); first | refine ngo ?_ | refine VB.tt ?_ | refine VB.ff ?_ | refine VNew.keep ?_ | refine dgo ?_ | refine sgo ?_ | refine ddo ?_ | refine And.intro (Nat.le_of_ble_eq_true rfl) ?_ | (with_reducible apply VB.id; rw [bneI]) | (with_reducible apply VB.id; rw [beqI]) | (with_reducible apply VB.dt; focus omega) | (with_reducible apply VB.df; focus omega) | (with_reducible apply VB.et; focus omega) | (with_reducible apply VB.ef; focus omega) | (with_reducible apply VB.nt; focus omega) | (with_reducible apply VB.nf; focus omega) | fail)
  conv => whnf
  refine VCall.sq (sboth_c a b la lb) ?_
  repeat' ((conv => whnf); first | refine ngo ?_ | refine VB.tt ?_ | refine VB.ff ?_ | refine VNew.keep ?_ | refine dgo ?_ | refine sgo ?_ | refine ddo ?_ | refine And.intro (Nat.le_of_ble_eq_true rfl) ?_ | (with_reducible apply VB.id; rw [bneI]) | (with_reducible apply VB.id; rw [beqI]) | (with_reducible apply VB.dt; focus omega) | (with_reducible apply VB.df; focus omega) | (with_reducible apply VB.et; focus omega) | (with_reducible apply VB.ef; focus omega) | (with_reducible apply VB.nt; focus omega) | (with_reducible apply VB.nf; focus omega) | fail)
  conv => whnf
  refine VB.ne (fun h => ?_) (fun h => ?_)
  · repeat' ((conv => whnf); first | refine ngo ?_ | refine VB.tt ?_ | refine VB.ff ?_ | refine VNew.keep ?_ | refine dgo ?_ | refine sgo ?_ | refine ddo ?_ | refine And.intro (Nat.le_of_ble_eq_true rfl) ?_ | (with_reducible apply VB.id; rw [bneI]) | (with_reducible apply VB.id; rw [beqI]) | (with_reducible apply VB.dt; focus omega) | (with_reducible apply VB.df; focus omega) | (with_reducible apply VB.et; focus omega) | (with_reducible apply VB.ef; focus omega) | (with_reducible apply VB.nt; focus omega) | (with_reducible apply VB.nf; focus omega) | fail)
    conv => whnf
    rw [opQ_err h]
    exact fz_err
  · obtain ⟨h1, h2⟩ := bothQ_zero h
    obtain ⟨e1, l1, _⟩ := chkQ_zero h1
    obtain ⟨e2, l2, _⟩ := chkQ_zero h2
    rw [opQ_zero h]
    repeat' ((conv => whnf); first | refine ngo ?_ | refine VB.tt ?_ | refine VB.ff ?_ | refine VNew.keep ?_ | refine dgo ?_ | refine sgo ?_ | refine ddo ?_ | refine And.intro (Nat.le_of_ble_eq_true rfl) ?_ | (with_reducible apply VB.id; rw [bneI]) | (with_reducible apply VB.id; rw [beqI]) | (with_reducible apply VB.dt; focus omega) | (with_reducible apply VB.df; focus omega) | (with_reducible apply VB.et; focus omega) | (with_reducible apply VB.ef; focus omega) | (with_reducible apply VB.nt; focus omega) | (with_reducible apply VB.nf; focus omega) | fail)
    conv => whnf
    show VCall EE _ [rawV a, rawV b] _ _
    rw [e1, e2]
    refine VCall.iq (splus_c (valQ a) (valQ b) (by omega)) ?_
    repeat' ((conv => whnf); first | refine ngo ?_ | refine VB.tt ?_ | refine VB.ff ?_ | refine VNew.keep ?_ | refine dgo ?_ | refine sgo ?_ | refine ddo ?_ | refine And.intro (Nat.le_of_ble_eq_true rfl) ?_ | (with_reducible apply VB.id; rw [bneI]) | (with_reducible apply VB.id; rw [beqI]) | (with_reducible apply VB.dt; focus omega) | (with_reducible apply VB.df; focus omega) | (with_reducible apply VB.et; focus omega) | (with_reducible apply VB.ef; focus omega) | (with_reducible apply VB.nt; focus omega) | (with_reducible apply VB.nf; focus omega) | fail)
    conv => whnf
    refine VCall.iq (sfits_c (valQ a + valQ b) (by have := rl_add (valQ a) (valQ b); omega)) ?_
    repeat' ((conv => whnf); first | refine ngo ?_ | refine VB.tt ?_ | refine VB.ff ?_ | refine VNew.keep ?_ | refine dgo ?_ | refine sgo ?_ | refine ddo ?_ | refine And.intro (Nat.le_of_ble_eq_true rfl) ?_ | (with_reducible apply VB.id; rw [bneI]) | (with_reducible apply VB.id; rw [beqI]) | (with_reducible apply VB.dt; focus omega) | (with_reducible apply VB.df; focus omega) | (with_reducible apply VB.et; focus omega) | (with_reducible apply VB.ef; focus omega) | (with_reducible apply VB.nt; focus omega) | (with_reducible apply VB.nf; focus omega) | fail)
    conv => whnf
    exact .same rfl (low_outQ 0 _ _)
theorem ssub_c (a b : RawQ) (la : lenQ a 1000000000000000000) (lb : lenQ b 1000000000000000000) : VCall EE 24 [rawV a, rawV b] [] fun v H => Fz H 0 [] v (opQ a b (ovf (valQ a + -valQ b)) (valQ a + -valQ b)) := by
  refine VCall.of_body true Try.func24 rfl (by decide) rfl ?_
  repeat' ((conv => whnf); first | refine ngo ?_ | refine VB.tt ?_ | refine VB.ff ?_ | refine VNew.keep ?_ | refine dgo ?_ | refine sgo ?_ | refine ddo ?_ | refine And.intro (Nat.le_of_ble_eq_true rfl) ?_ | (with_reducible apply VB.id; rw [bneI]) | (with_reducible apply VB.id; rw [beqI]) | (with_reducible apply VB.dt; focus omega) | (with_reducible apply VB.df; focus omega) | (with_reducible apply VB.et; focus omega) | (with_reducible apply VB.ef; focus omega) | (with_reducible apply VB.nt; focus omega) | (with_reducible apply VB.nf; focus omega) | fail)
  conv => whnf
  refine VCall.sq (sboth_c a b la lb) ?_
  repeat' ((conv => whnf); first | refine ngo ?_ | refine VB.tt ?_ | refine VB.ff ?_ | refine VNew.keep ?_ | refine dgo ?_ | refine sgo ?_ | refine ddo ?_ | refine And.intro (Nat.le_of_ble_eq_true rfl) ?_ | (with_reducible apply VB.id; rw [bneI]) | (with_reducible apply VB.id; rw [beqI]) | (with_reducible apply VB.dt; focus omega) | (with_reducible apply VB.df; focus omega) | (with_reducible apply VB.et; focus omega) | (with_reducible apply VB.ef; focus omega) | (with_reducible apply VB.nt; focus omega) | (with_reducible apply VB.nf; focus omega) | fail)
  conv => whnf
  refine VB.ne (fun h => ?_) (fun h => ?_)
  · repeat' ((conv => whnf); first | refine ngo ?_ | refine VB.tt ?_ | refine VB.ff ?_ | refine VNew.keep ?_ | refine dgo ?_ | refine sgo ?_ | refine ddo ?_ | refine And.intro (Nat.le_of_ble_eq_true rfl) ?_ | (with_reducible apply VB.id; rw [bneI]) | (with_reducible apply VB.id; rw [beqI]) | (with_reducible apply VB.dt; focus omega) | (with_reducible apply VB.df; focus omega) | (with_reducible apply VB.et; focus omega) | (with_reducible apply VB.ef; focus omega) | (with_reducible apply VB.nt; focus omega) | (with_reducible apply VB.nf; focus omega) | fail)
    conv => whnf
    rw [opQ_err h]
    exact fz_err
  · obtain ⟨h1, h2⟩ := bothQ_zero h
    obtain ⟨e1, l1, _⟩ := chkQ_zero h1
    obtain ⟨e2, l2, _⟩ := chkQ_zero h2
    rw [opQ_zero h]
    repeat' ((conv => whnf); first | refine ngo ?_ | refine VB.tt ?_ | refine VB.ff ?_ | refine VNew.keep ?_ | refine dgo ?_ | refine sgo ?_ | refine ddo ?_ | refine And.intro (Nat.le_of_ble_eq_true rfl) ?_ | (with_reducible apply VB.id; rw [bneI]) | (with_reducible apply VB.id; rw [beqI]) | (with_reducible apply VB.dt; focus omega) | (with_reducible apply VB.df; focus omega) | (with_reducible apply VB.et; focus omega) | (with_reducible apply VB.ef; focus omega) | (with_reducible apply VB.nt; focus omega) | (with_reducible apply VB.nf; focus omega) | fail)
    conv => whnf
    show VIso EE _ [rawV b] _
    rw [e2]
    refine VIso.iq (sminus_c (valQ b)) ?_
    repeat' ((conv => whnf); first | refine ngo ?_ | refine VB.tt ?_ | refine VB.ff ?_ | refine VNew.keep ?_ | refine dgo ?_ | refine sgo ?_ | refine ddo ?_ | refine And.intro (Nat.le_of_ble_eq_true rfl) ?_ | (with_reducible apply VB.id; rw [bneI]) | (with_reducible apply VB.id; rw [beqI]) | (with_reducible apply VB.dt; focus omega) | (with_reducible apply VB.df; focus omega) | (with_reducible apply VB.et; focus omega) | (with_reducible apply VB.ef; focus omega) | (with_reducible apply VB.nt; focus omega) | (with_reducible apply VB.nf; focus omega) | fail)
    conv => whnf
    show VIso EE _ [rawV a, ratV (-valQ b)] _
    rw [e1]
    refine VIso.iq (splus_c (valQ a) (-valQ b) (by rw [rl_neg]; omega)) ?_
    repeat' ((conv => whnf); first | refine ngo ?_ | refine VB.tt ?_ | refine VB.ff ?_ | refine VNew.keep ?_ | refine dgo ?_ | refine sgo ?_ | refine ddo ?_ | refine And.intro (Nat.le_of_ble_eq_true rfl) ?_ | (with_reducible apply VB.id; rw [bneI]) | (with_reducible apply VB.id; rw [beqI]) | (with_reducible apply VB.dt; focus omega) | (with_reducible apply VB.df; focus omega) | (with_reducible apply VB.et; focus omega) | (with_reducible apply VB.ef; focus omega) | (with_reducible apply VB.nt; focus omega) | (with_reducible apply VB.nf; focus omega) | fail)
    conv => whnf
    refine VIso.iq (sfits_c (valQ a + -valQ b) (by have := rl_add (valQ a) (-valQ b); rw [rl_neg] at this; omega)) ?_
    repeat' ((conv => whnf); first | refine ngo ?_ | refine VB.tt ?_ | refine VB.ff ?_ | refine VNew.keep ?_ | refine dgo ?_ | refine sgo ?_ | refine ddo ?_ | refine And.intro (Nat.le_of_ble_eq_true rfl) ?_ | (with_reducible apply VB.id; rw [bneI]) | (with_reducible apply VB.id; rw [beqI]) | (with_reducible apply VB.dt; focus omega) | (with_reducible apply VB.df; focus omega) | (with_reducible apply VB.et; focus omega) | (with_reducible apply VB.ef; focus omega) | (with_reducible apply VB.nt; focus omega) | (with_reducible apply VB.nf; focus omega) | fail)
    conv => whnf
    exact .same rfl (low_outQ 0 _ _)
theorem smul_c (a b : RawQ) (la : lenQ a 1000000000000000000) (lb : lenQ b 1000000000000000000) : VCall EE 26 [rawV a, rawV b] [] fun v H => Fz H 0 [] v (opQ a b (ovf (valQ a * valQ b)) (valQ a * valQ b)) := by
  refine VCall.of_body true Try.func26 rfl (by decide) rfl ?_
  repeat' ((conv => whnf); first | refine ngo ?_ | refine VB.tt ?_ | refine VB.ff ?_ | refine VNew.keep ?_ | refine dgo ?_ | refine sgo ?_ | refine ddo ?_ | refine And.intro (Nat.le_of_ble_eq_true rfl) ?_ | (with_reducible apply VB.id; rw [bneI]) | (with_reducible apply VB.id; rw [beqI]) | (with_reducible apply VB.dt; focus omega) | (with_reducible apply VB.df; focus omega) | (with_reducible apply VB.et; focus omega) | (with_reducible apply VB.ef; focus omega) | (with_reducible apply VB.nt; focus omega) | (with_reducible apply VB.nf; focus omega) | fail)
  conv => whnf
  refine VCall.sq (sboth_c a b la lb) ?_
  repeat' ((conv => whnf); first | refine ngo ?_ | refine VB.tt ?_ | refine VB.ff ?_ | refine VNew.keep ?_ | refine dgo ?_ | refine sgo ?_ | refine ddo ?_ | refine And.intro (Nat.le_of_ble_eq_true rfl) ?_ | (with_reducible apply VB.id; rw [bneI]) | (with_reducible apply VB.id; rw [beqI]) | (with_reducible apply VB.dt; focus omega) | (with_reducible apply VB.df; focus omega) | (with_reducible apply VB.et; focus omega) | (with_reducible apply VB.ef; focus omega) | (with_reducible apply VB.nt; focus omega) | (with_reducible apply VB.nf; focus omega) | fail)
  conv => whnf
  refine VB.ne (fun h => ?_) (fun h => ?_)
  · repeat' ((conv => whnf); first | refine ngo ?_ | refine VB.tt ?_ | refine VB.ff ?_ | refine VNew.keep ?_ | refine dgo ?_ | refine sgo ?_ | refine ddo ?_ | refine And.intro (Nat.le_of_ble_eq_true rfl) ?_ | (with_reducible apply VB.id; rw [bneI]) | (with_reducible apply VB.id; rw [beqI]) | (with_reducible apply VB.dt; focus omega) | (with_reducible apply VB.df; focus omega) | (with_reducible apply VB.et; focus omega) | (with_reducible apply VB.ef; focus omega) | (with_reducible apply VB.nt; focus omega) | (with_reducible apply VB.nf; focus omega) | fail)
    conv => whnf
    rw [opQ_err h]
    exact fz_err
  · obtain ⟨h1, h2⟩ := bothQ_zero h
    obtain ⟨e1, l1, _⟩ := chkQ_zero h1
    obtain ⟨e2, l2, _⟩ := chkQ_zero h2
    rw [opQ_zero h]
    repeat' ((conv => whnf); first | refine ngo ?_ | refine VB.tt ?_ | refine VB.ff ?_ | refine VNew.keep ?_ | refine dgo ?_ | refine sgo ?_ | refine ddo ?_ | refine And.intro (Nat.le_of_ble_eq_true rfl) ?_ | (with_reducible apply VB.id; rw [bneI]) | (with_reducible apply VB.id; rw [beqI]) | (with_reducible apply VB.dt; focus omega) | (with_reducible apply VB.df; focus omega) | (with_reducible apply VB.et; focus omega) | (with_reducible apply VB.ef; focus omega) | (with_reducible apply VB.nt; focus omega) | (with_reducible apply VB.nf; focus omega) | fail)
    conv => whnf
    show VCall EE _ [rawV a, rawV b] _ _
    rw [e1, e2]
    refine VCall.iq (stimes_c (valQ a) (valQ b) (by omega)) ?_
    repeat' ((conv => whnf); first | refine ngo ?_ | refine VB.tt ?_ | refine VB.ff ?_ | refine VNew.keep ?_ | refine dgo ?_ | refine sgo ?_ | refine ddo ?_ | refine And.intro (Nat.le_of_ble_eq_true rfl) ?_ | (with_reducible apply VB.id; rw [bneI]) | (with_reducible apply VB.id; rw [beqI]) | (with_reducible apply VB.dt; focus omega) | (with_reducible apply VB.df; focus omega) | (with_reducible apply VB.et; focus omega) | (with_reducible apply VB.ef; focus omega) | (with_reducible apply VB.nt; focus omega) | (with_reducible apply VB.nf; focus omega) | fail)
    conv => whnf
    refine VCall.iq (sfits_c (valQ a * valQ b) (by have := rl_mul (valQ a) (valQ b); omega)) ?_
    repeat' ((conv => whnf); first | refine ngo ?_ | refine VB.tt ?_ | refine VB.ff ?_ | refine VNew.keep ?_ | refine dgo ?_ | refine sgo ?_ | refine ddo ?_ | refine And.intro (Nat.le_of_ble_eq_true rfl) ?_ | (with_reducible apply VB.id; rw [bneI]) | (with_reducible apply VB.id; rw [beqI]) | (with_reducible apply VB.dt; focus omega) | (with_reducible apply VB.df; focus omega) | (with_reducible apply VB.et; focus omega) | (with_reducible apply VB.ef; focus omega) | (with_reducible apply VB.nt; focus omega) | (with_reducible apply VB.nf; focus omega) | fail)
    conv => whnf
    exact .same rfl (low_outQ 0 _ _)
theorem sdiv_c (a b : RawQ) (la : lenQ a 1000000000000000000) (lb : lenQ b 1000000000000000000) : VCall EE 28 [rawV a, rawV b] [] fun v H => Fz H 0 [] v (opQ a b (divE (valQ a) (valQ b)) (valQ a / valQ b)) := by
  refine VCall.of_body true Try.func28 rfl (by decide) rfl ?_
  repeat' ((conv => whnf); first | refine ngo ?_ | refine VB.tt ?_ | refine VB.ff ?_ | refine VNew.keep ?_ | refine dgo ?_ | refine sgo ?_ | refine ddo ?_ | refine And.intro (Nat.le_of_ble_eq_true rfl) ?_ | (with_reducible apply VB.id; rw [bneI]) | (with_reducible apply VB.id; rw [beqI]) | (with_reducible apply VB.dt; focus omega) | (with_reducible apply VB.df; focus omega) | (with_reducible apply VB.et; focus omega) | (with_reducible apply VB.ef; focus omega) | (with_reducible apply VB.nt; focus omega) | (with_reducible apply VB.nf; focus omega) | fail)
  conv => whnf
  refine VCall.sq (sboth_c a b la lb) ?_
  repeat' ((conv => whnf); first | refine ngo ?_ | refine VB.tt ?_ | refine VB.ff ?_ | refine VNew.keep ?_ | refine dgo ?_ | refine sgo ?_ | refine ddo ?_ | refine And.intro (Nat.le_of_ble_eq_true rfl) ?_ | (with_reducible apply VB.id; rw [bneI]) | (with_reducible apply VB.id; rw [beqI]) | (with_reducible apply VB.dt; focus omega) | (with_reducible apply VB.df; focus omega) | (with_reducible apply VB.et; focus omega) | (with_reducible apply VB.ef; focus omega) | (with_reducible apply VB.nt; focus omega) | (with_reducible apply VB.nf; focus omega) | fail)
  conv => whnf
  refine VB.ne (fun h => ?_) (fun h => ?_)
  · repeat' ((conv => whnf); first | refine ngo ?_ | refine VB.tt ?_ | refine VB.ff ?_ | refine VNew.keep ?_ | refine dgo ?_ | refine sgo ?_ | refine ddo ?_ | refine And.intro (Nat.le_of_ble_eq_true rfl) ?_ | (with_reducible apply VB.id; rw [bneI]) | (with_reducible apply VB.id; rw [beqI]) | (with_reducible apply VB.dt; focus omega) | (with_reducible apply VB.df; focus omega) | (with_reducible apply VB.et; focus omega) | (with_reducible apply VB.ef; focus omega) | (with_reducible apply VB.nt; focus omega) | (with_reducible apply VB.nf; focus omega) | fail)
    conv => whnf
    rw [opQ_err h]
    exact fz_err
  · obtain ⟨h1, h2⟩ := bothQ_zero h
    obtain ⟨e1, l1, _⟩ := chkQ_zero h1
    obtain ⟨e2, l2, _⟩ := chkQ_zero h2
    rw [opQ_zero h]
    repeat' ((conv => whnf); first | refine ngo ?_ | refine VB.tt ?_ | refine VB.ff ?_ | refine VNew.keep ?_ | refine dgo ?_ | refine sgo ?_ | refine ddo ?_ | refine And.intro (Nat.le_of_ble_eq_true rfl) ?_ | (with_reducible apply VB.id; rw [bneI]) | (with_reducible apply VB.id; rw [beqI]) | (with_reducible apply VB.dt; focus omega) | (with_reducible apply VB.df; focus omega) | (with_reducible apply VB.et; focus omega) | (with_reducible apply VB.ef; focus omega) | (with_reducible apply VB.nt; focus omega) | (with_reducible apply VB.nf; focus omega) | fail)
    conv => whnf
    show VCall EE _ [rawV b] _ _
    rw [e2]
    refine VCall.sq (szero_c (valQ b)) ?_
    repeat' ((conv => whnf); first | refine ngo ?_ | refine VB.tt ?_ | refine VB.ff ?_ | refine VNew.keep ?_ | refine dgo ?_ | refine sgo ?_ | refine ddo ?_ | refine And.intro (Nat.le_of_ble_eq_true rfl) ?_ | (with_reducible apply VB.id; rw [bneI]) | (with_reducible apply VB.id; rw [beqI]) | (with_reducible apply VB.dt; focus omega) | (with_reducible apply VB.df; focus omega) | (with_reducible apply VB.et; focus omega) | (with_reducible apply VB.ef; focus omega) | (with_reducible apply VB.nt; focus omega) | (with_reducible apply VB.nf; focus omega) | fail)
    conv => whnf
    refine VB.dec (fun hz => ?_) (fun hz => ?_)
    · repeat' ((conv => whnf); first | refine ngo ?_ | refine VB.tt ?_ | refine VB.ff ?_ | refine VNew.keep ?_ | refine dgo ?_ | refine sgo ?_ | refine ddo ?_ | refine And.intro (Nat.le_of_ble_eq_true rfl) ?_ | (with_reducible apply VB.id; rw [bneI]) | (with_reducible apply VB.id; rw [beqI]) | (with_reducible apply VB.dt; focus omega) | (with_reducible apply VB.df; focus omega) | (with_reducible apply VB.et; focus omega) | (with_reducible apply VB.ef; focus omega) | (with_reducible apply VB.nt; focus omega) | (with_reducible apply VB.nf; focus omega) | fail)
      conv => whnf
      rw [divE, if_pos hz, outQ, outR, if_neg (by decide)]
      exact fz_err
    · repeat' ((conv => whnf); first | refine ngo ?_ | refine VB.tt ?_ | refine VB.ff ?_ | refine VNew.keep ?_ | refine dgo ?_ | refine sgo ?_ | refine ddo ?_ | refine And.intro (Nat.le_of_ble_eq_true rfl) ?_ | (with_reducible apply VB.id; rw [bneI]) | (with_reducible apply VB.id; rw [beqI]) | (with_reducible apply VB.dt; focus omega) | (with_reducible apply VB.df; focus omega) | (with_reducible apply VB.et; focus omega) | (with_reducible apply VB.ef; focus omega) | (with_reducible apply VB.nt; focus omega) | (with_reducible apply VB.nf; focus omega) | fail)
      conv => whnf
      show VCall EE _ [rawV a, rawV b] _ _
      rw [e1, e2]
      refine VCall.iq (sover_c (valQ a) (valQ b) hz (by omega)) ?_
      repeat' ((conv => whnf); first | refine ngo ?_ | refine VB.tt ?_ | refine VB.ff ?_ | refine VNew.keep ?_ | refine dgo ?_ | refine sgo ?_ | refine ddo ?_ | refine And.intro (Nat.le_of_ble_eq_true rfl) ?_ | (with_reducible apply VB.id; rw [bneI]) | (with_reducible apply VB.id; rw [beqI]) | (with_reducible apply VB.dt; focus omega) | (with_reducible apply VB.df; focus omega) | (with_reducible apply VB.et; focus omega) | (with_reducible apply VB.ef; focus omega) | (with_reducible apply VB.nt; focus omega) | (with_reducible apply VB.nf; focus omega) | fail)
      conv => whnf
      refine VCall.iq (sfits_c (valQ a / valQ b) (by have := rl_over (valQ a) (valQ b) hz; omega)) ?_
      repeat' ((conv => whnf); first | refine ngo ?_ | refine VB.tt ?_ | refine VB.ff ?_ | refine VNew.keep ?_ | refine dgo ?_ | refine sgo ?_ | refine ddo ?_ | refine And.intro (Nat.le_of_ble_eq_true rfl) ?_ | (with_reducible apply VB.id; rw [bneI]) | (with_reducible apply VB.id; rw [beqI]) | (with_reducible apply VB.dt; focus omega) | (with_reducible apply VB.df; focus omega) | (with_reducible apply VB.et; focus omega) | (with_reducible apply VB.ef; focus omega) | (with_reducible apply VB.nt; focus omega) | (with_reducible apply VB.nf; focus omega) | fail)
      conv => whnf
      rw [divE, if_neg hz]
      exact .same rfl (low_outQ 0 _ _)
theorem scmp_c (a b : RawQ) (la : lenQ a 1000000000000000000) (lb : lenQ b 1000000000000000000) : VCall EE 29 [rawV a, rawV b] [] fun v H => v = outC a b (cmpQ (valQ a) (valQ b)) := by
  refine VCall.of_body true Try.func29 rfl (by decide) rfl ?_
  repeat' ((conv => whnf); first | refine ngo ?_ | refine VB.tt ?_ | refine VB.ff ?_ | refine VNew.keep ?_ | refine dgo ?_ | refine sgo ?_ | refine ddo ?_ | refine And.intro (Nat.le_of_ble_eq_true rfl) ?_ | (with_reducible apply VB.id; rw [bneI]) | (with_reducible apply VB.id; rw [beqI]) | (with_reducible apply VB.dt; focus omega) | (with_reducible apply VB.df; focus omega) | (with_reducible apply VB.et; focus omega) | (with_reducible apply VB.ef; focus omega) | (with_reducible apply VB.nt; focus omega) | (with_reducible apply VB.nf; focus omega) | fail)
  conv => whnf
  refine VCall.sq (sboth_c a b la lb) ?_
  repeat' ((conv => whnf); first | refine ngo ?_ | refine VB.tt ?_ | refine VB.ff ?_ | refine VNew.keep ?_ | refine dgo ?_ | refine sgo ?_ | refine ddo ?_ | refine And.intro (Nat.le_of_ble_eq_true rfl) ?_ | (with_reducible apply VB.id; rw [bneI]) | (with_reducible apply VB.id; rw [beqI]) | (with_reducible apply VB.dt; focus omega) | (with_reducible apply VB.df; focus omega) | (with_reducible apply VB.et; focus omega) | (with_reducible apply VB.ef; focus omega) | (with_reducible apply VB.nt; focus omega) | (with_reducible apply VB.nf; focus omega) | fail)
  conv => whnf
  refine VB.ne (fun h => ?_) (fun h => ?_)
  · repeat' ((conv => whnf); first | refine ngo ?_ | refine VB.tt ?_ | refine VB.ff ?_ | refine VNew.keep ?_ | refine dgo ?_ | refine sgo ?_ | refine ddo ?_ | refine And.intro (Nat.le_of_ble_eq_true rfl) ?_ | (with_reducible apply VB.id; rw [bneI]) | (with_reducible apply VB.id; rw [beqI]) | (with_reducible apply VB.dt; focus omega) | (with_reducible apply VB.df; focus omega) | (with_reducible apply VB.et; focus omega) | (with_reducible apply VB.ef; focus omega) | (with_reducible apply VB.nt; focus omega) | (with_reducible apply VB.nf; focus omega) | fail)
    conv => whnf
    rw [outC, if_neg h]
  · obtain ⟨h1, h2⟩ := bothQ_zero h
    obtain ⟨e1, l1, _⟩ := chkQ_zero h1
    obtain ⟨e2, l2, _⟩ := chkQ_zero h2
    repeat' ((conv => whnf); first | refine ngo ?_ | refine VB.tt ?_ | refine VB.ff ?_ | refine VNew.keep ?_ | refine dgo ?_ | refine sgo ?_ | refine ddo ?_ | refine And.intro (Nat.le_of_ble_eq_true rfl) ?_ | (with_reducible apply VB.id; rw [bneI]) | (with_reducible apply VB.id; rw [beqI]) | (with_reducible apply VB.dt; focus omega) | (with_reducible apply VB.df; focus omega) | (with_reducible apply VB.et; focus omega) | (with_reducible apply VB.ef; focus omega) | (with_reducible apply VB.nt; focus omega) | (with_reducible apply VB.nf; focus omega) | fail)
    conv => whnf
    show VCall EE _ [rawV a, rawV b] _ _
    rw [e1, e2]
    refine VCall.sq (sorder_c (valQ a) (valQ b) (by omega)) ?_
    repeat' ((conv => whnf); first | refine ngo ?_ | refine VB.tt ?_ | refine VB.ff ?_ | refine VNew.keep ?_ | refine dgo ?_ | refine sgo ?_ | refine ddo ?_ | refine And.intro (Nat.le_of_ble_eq_true rfl) ?_ | (with_reducible apply VB.id; rw [bneI]) | (with_reducible apply VB.id; rw [beqI]) | (with_reducible apply VB.dt; focus omega) | (with_reducible apply VB.df; focus omega) | (with_reducible apply VB.et; focus omega) | (with_reducible apply VB.ef; focus omega) | (with_reducible apply VB.nt; focus omega) | (with_reducible apply VB.nf; focus omega) | fail)
    conv => whnf
    rw [outC, if_pos h, h]
end Go.Proofs.Ytoijfbdjlagooaa


/- The simplest number of an interval: plain facts. -/
namespace Go.Proofs.Ytoijfbdjlagooaa
open Go Go.RowKit
set_option linter.unusedVariables false
set_option linter.unusedSimpArgs false
set_option maxRecDepth 100000

def simpQ : Nat → Rat → Rat → Rat
  | 0, lo, _ => lo
  | n + 1, lo, hi => if (lo.floor : Rat) = lo then lo.floor else if (lo.floor : Rat) + 1 ≤ hi then (lo.floor : Rat) + 1 else (lo.floor : Rat) + 1 / simpQ n (1 / (hi + -(lo.floor : Rat))) (1 / (lo + -(lo.floor : Rat)))

theorem one_div (a : Rat) : 1 / a = a⁻¹ := by rw [Rat.div_def, Rat.one_mul]
theorem inv_one' : (1 : Rat)⁻¹ = 1 := by
  have := Rat.mul_inv_cancel 1 (by decide)
  rwa [Rat.one_mul] at this
theorem inv_anti {a b : Rat} (h : 0 < a) (hab : a ≤ b) : b⁻¹ ≤ a⁻¹ := by
  have hb : 0 < b := by grind
  have ha0 : a ≠ 0 := Rat.ne_of_gt h
  have hb0 : b ≠ 0 := Rat.ne_of_gt hb
  refine Rat.le_of_mul_le_mul_left (c := a * b) ?_ (Rat.mul_pos h hb)
  have e1 : a * b * b⁻¹ = a := by rw [Rat.mul_assoc, Rat.mul_inv_cancel b hb0, Rat.mul_one]
  have e2 : a * b * a⁻¹ = b := by rw [Rat.mul_comm a b, Rat.mul_assoc, Rat.mul_inv_cancel a ha0, Rat.mul_one]
  rw [e1, e2]
  exact hab
theorem num_pos {q : Rat} (h : 0 < q) : 0 < q.num := by
  have := (Rat.lt_iff 0 q).1 h
  simpa using this
/-- An integer and an inverse: the parts. -/
theorem add_inv_parts (f : Int) {y : Rat} (h : 0 < y) : ((f : Rat) + 1 / y).num = f * y.num + y.den ∧ ((f : Rat) + 1 / y).den = y.num.natAbs := by
  have hp := num_pos h
  have hpn : (y.num.natAbs : Int) = y.num := by omega
  have hnz : y.num.natAbs ≠ 0 := by omega
  have hred : (f * y.num + y.den).natAbs.Coprime y.num.natAbs := by
    have h1 := y.reduced
    have h2 : Int.gcd (f * y.num + y.den) y.num = Int.gcd y.den y.num := by
      rw [Int.add_comm, Int.gcd_add_mul_right_left]
    have h3 : Int.gcd (y.den : Int) y.num = 1 := by
      rw [Int.gcd_comm]
      exact h1
    exact h2.trans h3
  have e : (f : Rat) + 1 / y = ⟨f * y.num + y.den, y.num.natAbs, hnz, hred⟩ := by
    rw [Rat.mk_eq_mkRat, ← Rat.divInt_ofNat, hpn, one_div, Rat.inv_def]
    have : (f : Rat) = Rat.divInt f 1 := by rw [← Rat.num_divInt_den (f : Rat)]; rfl
    rw [this, Rat.divInt_add_divInt _ _ (by decide) (by omega), Int.mul_one, Int.one_mul]
  rw [e]
  exact ⟨rfl, rfl⟩
theorem floor_le' (q : Rat) : (q.floor : Rat) ≤ q := Rat.floor_le q
theorem lt_floor' (q : Rat) : q < (q.floor : Rat) + 1 := by
  have := Rat.lt_floor_add_one q
  rwa [Rat.intCast_add] at this
theorem floor_nonneg {q : Rat} (h : 0 < q) : 0 ≤ q.floor := by
  rw [Rat.le_floor_iff]
  exact Rat.le_of_lt h
theorem num_ge {f : Int} {y : Rat} (hf : 0 ≤ f) (h : (f : Rat) ≤ y) : f ≤ y.num := by
  have h1 := (Rat.le_iff (f : Rat) y).1 h
  rw [Rat.num_intCast, Rat.den_intCast] at h1
  have hd : (1 : Int) ≤ y.den := by have := Nat.pos_of_ne_zero y.den_nz; omega
  have h2 : f * 1 ≤ f * y.den := Int.mul_le_mul_of_nonneg_left hd hf
  omega
theorem num_gt {f : Int} {y : Rat} (hf : 0 ≤ f) (h : (f : Rat) < y) : f + 1 ≤ y.num := by
  have h1 := (Rat.lt_iff (f : Rat) y).1 h
  rw [Rat.num_intCast, Rat.den_intCast] at h1
  have hd : (1 : Int) ≤ y.den := by have := Nat.pos_of_ne_zero y.den_nz; omega
  have h2 : f * 1 ≤ f * y.den := Int.mul_le_mul_of_nonneg_left hd hf
  omega
/-- What is left of a number, turned over. -/
theorem rest_parts {y : Rat} {f : Int} (h1 : (f : Rat) < y) (h2 : y < (f : Rat) + 1) : 0 < y + -(f : Rat) ∧ y = (f : Rat) + 1 / (1 / (y + -(f : Rat))) ∧ 1 ≤ 1 / (y + -(f : Rat)) ∧ (1 / (y + -(f : Rat))).den < y.den ∧ (1 / (y + -(f : Rat))).num = y.den := by
  have hp : 0 < y + -(f : Rat) := by grind
  have hi : 0 < 1 / (y + -(f : Rat)) := by rw [one_div]; exact Rat.inv_pos.2 hp
  have he : y = (f : Rat) + 1 / (1 / (y + -(f : Rat))) := by
    rw [one_div (1 / _), one_div, Rat.inv_inv]
    grind
  have hle : 1 ≤ 1 / (y + -(f : Rat)) := by
    rw [one_div]
    have := inv_anti hp (show y + -(f : Rat) ≤ 1 by grind)
    rwa [inv_one'] at this
  obtain ⟨hn, hd⟩ := add_inv_parts f hi
  rw [← he] at hn hd
  have hnp := num_pos hi
  refine ⟨hp, he, hle, ?_, by omega⟩
  generalize 1 / (y + -(f : Rat)) = z at *
  have hz1 : z ≠ 1 := by
    rintro rfl
    have : y = (f : Rat) + 1 := by rw [one_div, inv_one'] at he; exact he
    grind
  have hlt : (1 : Rat) < z := by grind
  have h5 := (Rat.lt_iff 1 z).1 hlt
  simp at h5
  omega

structure SimpOK (lo hi r : Rat) : Prop where
  ge : lo ≤ r
  le : r ≤ hi
  den : ∀ y : Rat, lo ≤ y → y ≤ hi → r.den ≤ y.den
  num : ∀ y : Rat, lo ≤ y → y ≤ hi → r.num ≤ y.num

theorem simpQ_ok : ∀ (n : Nat) {lo hi : Rat}, 0 < lo → lo ≤ hi → lo.den + hi.den ≤ n → SimpOK lo hi (simpQ n lo hi)
  | 0, lo, hi, h0, hle, hn => by
    have := Nat.pos_of_ne_zero lo.den_nz
    omega
  | n + 1, lo, hi, h0, hle, hn => by
    have hf0 := floor_nonneg h0
    have hfl := floor_le' lo
    have hfu := lt_floor' lo
    rw [simpQ]
    generalize hfe : lo.floor = f at *
    have hden : ∀ (m : Int) (y : Rat), ((m : Rat)).den ≤ y.den := fun m y => by
      rw [Rat.den_intCast]
      exact Nat.pos_of_ne_zero y.den_nz
    by_cases h1 : (f : Rat) = lo
    · rw [if_pos h1]
      refine ⟨by rw [h1]; exact Rat.le_refl, by rw [h1]; exact hle, fun y _ _ => hden f y, fun y hy _ => ?_⟩
      rw [Rat.num_intCast]
      exact num_ge hf0 (by rw [h1]; exact hy)
    rw [if_neg h1]
    have hflt : (f : Rat) < lo := by grind
    have hone : (f : Rat) + 1 = ((f + 1 : Int) : Rat) := by rw [Rat.intCast_add]; rfl
    by_cases h2 : (f : Rat) + 1 ≤ hi
    · rw [if_pos h2]
      refine ⟨Rat.le_of_lt hfu, h2, fun y _ _ => by rw [hone]; exact hden _ y, fun y hy _ => ?_⟩
      rw [hone, Rat.num_intCast]
      exact num_gt hf0 (by grind)
    rw [if_neg h2]
    have hhu : hi < (f : Rat) + 1 := by grind
    have hhl : (f : Rat) < hi := by grind
    obtain ⟨a1, a2, a3, a4, a5⟩ := rest_parts hflt hfu
    obtain ⟨b1, b2, b3, b4, b5⟩ := rest_parts hhl hhu
    have hlo' : 0 < 1 / (hi + -(f : Rat)) := by grind
    have hle' : 1 / (hi + -(f : Rat)) ≤ 1 / (lo + -(f : Rat)) := by
      rw [one_div, one_div]
      exact inv_anti a1 (by grind)
    have ih := simpQ_ok n hlo' hle' (by omega)
    generalize simpQ n (1 / (hi + -(f : Rat))) (1 / (lo + -(f : Rat))) = x at *
    have hx : 0 < x := by have := ih.ge; grind
    obtain ⟨xn, xd⟩ := add_inv_parts f hx
    have hxn := num_pos hx
    refine ⟨?_, ?_, fun y hy1 hy2 => ?_, fun y hy1 hy2 => ?_⟩
    · have := inv_anti hx ih.le
      rw [one_div, Rat.inv_inv] at this
      rw [one_div]
      grind
    · have := inv_anti hlo' ih.ge
      rw [one_div, Rat.inv_inv] at this
      rw [one_div]
      grind
    · obtain ⟨c1, c2, c3, c4, c5⟩ := rest_parts (show (f : Rat) < y by grind) (show y < (f : Rat) + 1 by grind)
      have hz1 : 1 / (hi + -(f : Rat)) ≤ 1 / (y + -(f : Rat)) := by rw [one_div, one_div]; exact inv_anti c1 (by grind)
      have hz2 : 1 / (y + -(f : Rat)) ≤ 1 / (lo + -(f : Rat)) := by rw [one_div, one_div]; exact inv_anti a1 (by grind)
      have := ih.num _ hz1 hz2
      rw [xd]
      omega
    · obtain ⟨c1, c2, c3, c4, c5⟩ := rest_parts (show (f : Rat) < y by grind) (show y < (f : Rat) + 1 by grind)
      have hz1 : 1 / (hi + -(f : Rat)) ≤ 1 / (y + -(f : Rat)) := by rw [one_div, one_div]; exact inv_anti c1 (by grind)
      have hz2 : 1 / (y + -(f : Rat)) ≤ 1 / (lo + -(f : Rat)) := by rw [one_div, one_div]; exact inv_anti a1 (by grind)
      have h3 := ih.num _ hz1 hz2
      have h4 := ih.den _ hz1 hz2
      obtain ⟨yn, yd⟩ := add_inv_parts f (show 0 < 1 / (y + -(f : Rat)) by grind)
      rw [← c2] at yn
      rw [xn, yn]
      have h5 := Int.mul_le_mul_of_nonneg_left h3 hf0
      omega
end Go.Proofs.Ytoijfbdjlagooaa
