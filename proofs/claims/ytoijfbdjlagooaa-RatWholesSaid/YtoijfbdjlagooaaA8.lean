/- The program logic and the contracts that a law leans on, part 8. -/
import Derived.Test.YtoijfbdjlagooaaA7
import Derived.Test.YtoijfbdjlagooaaA2
import Derived.Test.YtoijfbdjlagooaaA5
import Derived.ChangeArms
import Derived.ChangeSlices
import Derived.WideShapes

/- Contracts: quotients of ints and of numbers, rounding, multiples: the document's and the program's. -/
namespace Go.Proofs.Ytoijfbdjlagooaa
open Go Go.RowKit
set_option linter.unusedVariables false
set_option linter.unusedSimpArgs false
set_option maxRecDepth 100000

def opQ1 (r : RawQ) (e : Int) (q : Rat) : AV := outQ (if chkQ r = 0 then e else chkQ r) q
theorem opQ1_zero {r : RawQ} (h : chkQ r = 0) (e : Int) (q : Rat) : opQ1 r e q = outQ e q := by rw [opQ1, if_pos h]
theorem opQ1_err {r : RawQ} (h : chkQ r ≠ 0) (e : Int) (q : Rat) : opQ1 r e q = .tup [rawV rz, .int .i64 (chkQ r)] := by rw [opQ1, if_neg h, outQ, outR, if_neg h]

def ofQ (m n : Int) : Rat := mkQ (decide (m < 0) != decide (n < 0)) m.natAbs n.natAbs
theorem qof_c {m n : Int} (m1 : -9223372036854775808 ≤ m) (m2 : m < 9223372036854775808) (n1 : -9223372036854775808 ≤ n) (n2 : n < 9223372036854775808) : VCall EE 38 [.int .i64 m, .int .i64 n] [] fun v H => Fz H 0 [] v (outQ (if n = 0 then 6 else 0) (ofQ m n)) := by
  refine VCall.of_body true Try.func38 rfl (by decide) rfl ?_
  repeat' ((conv => whnf); first | refine ngo ?_ | refine VB.tt ?_ | refine VB.ff ?_ | refine VNew.keep ?_ | refine dgo ?_ | refine sgo ?_ | refine ddo ?_ | refine And.intro (Nat.le_of_ble_eq_true rfl) ?_ | ((with_reducible apply VB.id); rw [bneI]) | ((with_reducible apply VB.id); rw [beqI]) | ((with_reducible apply VB.dt); focus omega) | ((with_reducible apply VB.df); focus omega) | ((with_reducible apply VB.et); focus omega) | ((with_reducible apply VB.ef); focus omega) | ((with_reducible apply VB.nt); focus omega) | ((with_reducible apply VB.nf); focus omega) | fail)
  conv => whnf
  refine VB.eq (fun h => ?_) (fun h => ?_)
  · repeat' ((conv => whnf); first | refine ngo ?_ | refine VB.tt ?_ | refine VB.ff ?_ | refine VNew.keep ?_ | refine dgo ?_ | refine sgo ?_ | refine ddo ?_ | refine And.intro (Nat.le_of_ble_eq_true rfl) ?_ | ((with_reducible apply VB.id); rw [bneI]) | ((with_reducible apply VB.id); rw [beqI]) | ((with_reducible apply VB.dt); focus omega) | ((with_reducible apply VB.df); focus omega) | ((with_reducible apply VB.et); focus omega) | ((with_reducible apply VB.ef); focus omega) | ((with_reducible apply VB.nt); focus omega) | ((with_reducible apply VB.nf); focus omega) | fail)
    conv => whnf
    rw [if_pos h, outQ, outR, if_neg (by decide)]
    exact fz_err
  · repeat' ((conv => whnf); first | refine ngo ?_ | refine VB.tt ?_ | refine VB.ff ?_ | refine VNew.keep ?_ | refine dgo ?_ | refine sgo ?_ | refine ddo ?_ | refine And.intro (Nat.le_of_ble_eq_true rfl) ?_ | ((with_reducible apply VB.id); rw [bneI]) | ((with_reducible apply VB.id); rw [beqI]) | ((with_reducible apply VB.dt); focus omega) | ((with_reducible apply VB.df); focus omega) | ((with_reducible apply VB.et); focus omega) | ((with_reducible apply VB.ef); focus omega) | ((with_reducible apply VB.nt); focus omega) | ((with_reducible apply VB.nf); focus omega) | fail)
    conv => whnf
    refine VCall.iq (ratio_c m1 m2 n1 n2 h) ?_
    repeat' ((conv => whnf); first | refine ngo ?_ | refine VB.tt ?_ | refine VB.ff ?_ | refine VNew.keep ?_ | refine dgo ?_ | refine sgo ?_ | refine ddo ?_ | refine And.intro (Nat.le_of_ble_eq_true rfl) ?_ | ((with_reducible apply VB.id); rw [bneI]) | ((with_reducible apply VB.id); rw [beqI]) | ((with_reducible apply VB.dt); focus omega) | ((with_reducible apply VB.df); focus omega) | ((with_reducible apply VB.et); focus omega) | ((with_reducible apply VB.ef); focus omega) | ((with_reducible apply VB.nt); focus omega) | ((with_reducible apply VB.nf); focus omega) | fail)
    conv => whnf
    rw [if_neg h, outQ, outR, if_pos rfl]
    exact .same rfl ⟨low_ratV 0 _, trivial, trivial⟩
theorem sof_c {m n : Int} (m1 : -9223372036854775808 ≤ m) (m2 : m < 9223372036854775808) (n1 : -9223372036854775808 ≤ n) (n2 : n < 9223372036854775808) : VCall EE 39 [.int .i64 m, .int .i64 n] [] fun v H => Fz H 0 [] v (outQ (if n = 0 then 6 else 0) (ofQ m n)) := by
  refine VCall.of_body true Try.func39 rfl (by decide) rfl ?_
  repeat' ((conv => whnf); first | refine ngo ?_ | refine VB.tt ?_ | refine VB.ff ?_ | refine VNew.keep ?_ | refine dgo ?_ | refine sgo ?_ | refine ddo ?_ | refine And.intro (Nat.le_of_ble_eq_true rfl) ?_ | ((with_reducible apply VB.id); rw [bneI]) | ((with_reducible apply VB.id); rw [beqI]) | ((with_reducible apply VB.dt); focus omega) | ((with_reducible apply VB.df); focus omega) | ((with_reducible apply VB.et); focus omega) | ((with_reducible apply VB.ef); focus omega) | ((with_reducible apply VB.nt); focus omega) | ((with_reducible apply VB.nf); focus omega) | fail)
  conv => whnf
  refine VB.eq (fun h => ?_) (fun h => ?_)
  · repeat' ((conv => whnf); first | refine ngo ?_ | refine VB.tt ?_ | refine VB.ff ?_ | refine VNew.keep ?_ | refine dgo ?_ | refine sgo ?_ | refine ddo ?_ | refine And.intro (Nat.le_of_ble_eq_true rfl) ?_ | ((with_reducible apply VB.id); rw [bneI]) | ((with_reducible apply VB.id); rw [beqI]) | ((with_reducible apply VB.dt); focus omega) | ((with_reducible apply VB.df); focus omega) | ((with_reducible apply VB.et); focus omega) | ((with_reducible apply VB.ef); focus omega) | ((with_reducible apply VB.nt); focus omega) | ((with_reducible apply VB.nf); focus omega) | fail)
    conv => whnf
    rw [if_pos h, outQ, outR, if_neg (by decide)]
    exact fz_err
  · repeat' ((conv => whnf); first | refine ngo ?_ | refine VB.tt ?_ | refine VB.ff ?_ | refine VNew.keep ?_ | refine dgo ?_ | refine sgo ?_ | refine ddo ?_ | refine And.intro (Nat.le_of_ble_eq_true rfl) ?_ | ((with_reducible apply VB.id); rw [bneI]) | ((with_reducible apply VB.id); rw [beqI]) | ((with_reducible apply VB.dt); focus omega) | ((with_reducible apply VB.df); focus omega) | ((with_reducible apply VB.et); focus omega) | ((with_reducible apply VB.ef); focus omega) | ((with_reducible apply VB.nt); focus omega) | ((with_reducible apply VB.nf); focus omega) | fail)
    conv => whnf
    refine VCall.iq (sratio_c m1 m2 n1 n2 h) ?_
    repeat' ((conv => whnf); first | refine ngo ?_ | refine VB.tt ?_ | refine VB.ff ?_ | refine VNew.keep ?_ | refine dgo ?_ | refine sgo ?_ | refine ddo ?_ | refine And.intro (Nat.le_of_ble_eq_true rfl) ?_ | ((with_reducible apply VB.id); rw [bneI]) | ((with_reducible apply VB.id); rw [beqI]) | ((with_reducible apply VB.dt); focus omega) | ((with_reducible apply VB.df); focus omega) | ((with_reducible apply VB.et); focus omega) | ((with_reducible apply VB.ef); focus omega) | ((with_reducible apply VB.nt); focus omega) | ((with_reducible apply VB.nf); focus omega) | fail)
    conv => whnf
    rw [if_neg h, outQ, outR, if_pos rfl]
    exact .same rfl ⟨low_ratV 0 _, trivial, trivial⟩
theorem rl_ofQ {m n : Int} (m1 : -9223372036854775808 ≤ m) (m2 : m < 9223372036854775808) (n1 : -9223372036854775808 ≤ n) (n2 : n < 9223372036854775808) (hn : n ≠ 0) : rl (ofQ m n) ≤ 3 := rl_mkQ (len_natAbs m1 m2) (len_natAbs n1 n2) (by omega)

theorem rl_parts {neg : Bool} {num den : List Nat} (h : partsQ num den = 0) : rl (mkQ neg (val num) (val den)) ≤ 1024 := by
  obtain ⟨⟨h1, h2⟩, h3⟩ := partsQ_zero h
  obtain ⟨c1, m1⟩ := chk_zero h1
  obtain ⟨c2, m2⟩ := chk_zero h2
  exact rl_mkQ (by rw [dg_val c1]; exact m1) (by rw [dg_val c2]; exact m2) (val_ne_zero c2 h3)
theorem smake_c {neg : Bool} {num den : List Nat} (l1 : num.length < 1000000000000000000) (l2 : den.length < 1000000000000000000) : VCall EE 41 [.bool neg, natL num, natL den] [] fun v H => Fz H 0 [] v (outQ (partsQ num den) (mkQ neg (val num) (val den))) := by
  refine VCall.of_body true Try.func41 rfl (by decide) rfl ?_
  repeat' ((conv => whnf); first | refine ngo ?_ | refine VB.tt ?_ | refine VB.ff ?_ | refine VNew.keep ?_ | refine dgo ?_ | refine sgo ?_ | refine ddo ?_ | refine And.intro (Nat.le_of_ble_eq_true rfl) ?_ | ((with_reducible apply VB.id); rw [bneI]) | ((with_reducible apply VB.id); rw [beqI]) | ((with_reducible apply VB.dt); focus omega) | ((with_reducible apply VB.df); focus omega) | ((with_reducible apply VB.et); focus omega) | ((with_reducible apply VB.ef); focus omega) | ((with_reducible apply VB.nt); focus omega) | ((with_reducible apply VB.nf); focus omega) | fail)
  conv => whnf
  refine VCall.sq (sparts_c l1 l2) ?_
  repeat' ((conv => whnf); first | refine ngo ?_ | refine VB.tt ?_ | refine VB.ff ?_ | refine VNew.keep ?_ | refine dgo ?_ | refine sgo ?_ | refine ddo ?_ | refine And.intro (Nat.le_of_ble_eq_true rfl) ?_ | ((with_reducible apply VB.id); rw [bneI]) | ((with_reducible apply VB.id); rw [beqI]) | ((with_reducible apply VB.dt); focus omega) | ((with_reducible apply VB.df); focus omega) | ((with_reducible apply VB.et); focus omega) | ((with_reducible apply VB.ef); focus omega) | ((with_reducible apply VB.nt); focus omega) | ((with_reducible apply VB.nf); focus omega) | fail)
  conv => whnf
  refine VB.ne (fun h => ?_) (fun h => ?_)
  · repeat' ((conv => whnf); first | refine ngo ?_ | refine VB.tt ?_ | refine VB.ff ?_ | refine VNew.keep ?_ | refine dgo ?_ | refine sgo ?_ | refine ddo ?_ | refine And.intro (Nat.le_of_ble_eq_true rfl) ?_ | ((with_reducible apply VB.id); rw [bneI]) | ((with_reducible apply VB.id); rw [beqI]) | ((with_reducible apply VB.dt); focus omega) | ((with_reducible apply VB.df); focus omega) | ((with_reducible apply VB.et); focus omega) | ((with_reducible apply VB.ef); focus omega) | ((with_reducible apply VB.nt); focus omega) | ((with_reducible apply VB.nf); focus omega) | fail)
    conv => whnf
    rw [outQ, outR, if_neg h]
    exact fz_err
  · have hr := rl_parts (neg := neg) h
    have ho := ovf_small hr
    obtain ⟨⟨h1, h2⟩, h3⟩ := partsQ_zero h
    obtain ⟨c1, m1⟩ := chk_zero h1
    obtain ⟨c2, m2⟩ := chk_zero h2
    have hL := slowest_c (neg := neg) (n := val num) (d := val den) (val_ne_zero c2 h3) (by rw [dg_val c1]; omega) (by rw [dg_val c2]; omega)
    rw [← canon_natL c1, ← canon_natL c2] at hL
    have hF := sfits_c (mkQ neg (val num) (val den)) (by omega)
    rw [ho] at hF
    repeat' ((conv => whnf); first | refine ngo ?_ | refine VB.tt ?_ | refine VB.ff ?_ | refine VNew.keep ?_ | refine dgo ?_ | refine sgo ?_ | refine ddo ?_ | refine And.intro (Nat.le_of_ble_eq_true rfl) ?_ | ((with_reducible apply VB.id); rw [bneI]) | ((with_reducible apply VB.id); rw [beqI]) | ((with_reducible apply VB.dt); focus omega) | ((with_reducible apply VB.df); focus omega) | ((with_reducible apply VB.et); focus omega) | ((with_reducible apply VB.ef); focus omega) | ((with_reducible apply VB.nt); focus omega) | ((with_reducible apply VB.nf); focus omega) | fail)
    conv => whnf
    refine VCall.iq (hL) ?_
    repeat' ((conv => whnf); first | refine ngo ?_ | refine VB.tt ?_ | refine VB.ff ?_ | refine VNew.keep ?_ | refine dgo ?_ | refine sgo ?_ | refine ddo ?_ | refine And.intro (Nat.le_of_ble_eq_true rfl) ?_ | ((with_reducible apply VB.id); rw [bneI]) | ((with_reducible apply VB.id); rw [beqI]) | ((with_reducible apply VB.dt); focus omega) | ((with_reducible apply VB.df); focus omega) | ((with_reducible apply VB.et); focus omega) | ((with_reducible apply VB.ef); focus omega) | ((with_reducible apply VB.nt); focus omega) | ((with_reducible apply VB.nf); focus omega) | fail)
    conv => whnf
    refine VCall.iq (hF) ?_
    repeat' ((conv => whnf); first | refine ngo ?_ | refine VB.tt ?_ | refine VB.ff ?_ | refine VNew.keep ?_ | refine dgo ?_ | refine sgo ?_ | refine ddo ?_ | refine And.intro (Nat.le_of_ble_eq_true rfl) ?_ | ((with_reducible apply VB.id); rw [bneI]) | ((with_reducible apply VB.id); rw [beqI]) | ((with_reducible apply VB.dt); focus omega) | ((with_reducible apply VB.df); focus omega) | ((with_reducible apply VB.et); focus omega) | ((with_reducible apply VB.ef); focus omega) | ((with_reducible apply VB.nt); focus omega) | ((with_reducible apply VB.nf); focus omega) | fail)
    conv => whnf
    rw [h]
    exact .same rfl (low_outQ 0 _ _)
theorem qmake_c {neg : Bool} {num den : List Nat} (l1 : num.length < 1000000000000000000) (l2 : den.length < 1000000000000000000) : VCall EE 40 [.bool neg, natL num, natL den] [] fun v H => Fz H 0 [] v (outQ (partsQ num den) (mkQ neg (val num) (val den))) := by
  refine VCall.of_body true Try.func40 rfl (by decide) rfl ?_
  repeat' ((conv => whnf); first | refine ngo ?_ | refine VB.tt ?_ | refine VB.ff ?_ | refine VNew.keep ?_ | refine dgo ?_ | refine sgo ?_ | refine ddo ?_ | refine And.intro (Nat.le_of_ble_eq_true rfl) ?_ | ((with_reducible apply VB.id); rw [bneI]) | ((with_reducible apply VB.id); rw [beqI]) | ((with_reducible apply VB.dt); focus omega) | ((with_reducible apply VB.df); focus omega) | ((with_reducible apply VB.et); focus omega) | ((with_reducible apply VB.ef); focus omega) | ((with_reducible apply VB.nt); focus omega) | ((with_reducible apply VB.nf); focus omega) | fail)
  conv => whnf
  refine VLoop.tr true (fun i : Nat => ⟨[(0, .bool neg), (1, natL num), (2, natL den), (6, .ptr 0 0 0), (13, .agg [natL num, natL den]), (14, .int .i64 i)], [.cells 0 25 [.bool false, .nsl, .nsl]], []⟩) (fun i => i = 0 ∨ (i = 1 ∧ chk num = 0) ∨ (i = 2 ∧ chk num = 0 ∧ chk den = 0)) (fun i => 2 - i) 0 (.inl rfl) ⟨⟨rfl, rfl, rfl, rfl, rfl, rfl, trivial⟩, rfl, rfl⟩ ?_
  rintro i (rfl | ⟨rfl, h1⟩ | ⟨rfl, h1, h2⟩)
  · repeat' ((conv => whnf); first | refine ngo ?_ | refine VB.tt ?_ | refine VB.ff ?_ | refine VNew.keep ?_ | refine dgo ?_ | refine sgo ?_ | refine ddo ?_ | refine And.intro (Nat.le_of_ble_eq_true rfl) ?_ | ((with_reducible apply VB.id); rw [bneI]) | ((with_reducible apply VB.id); rw [beqI]) | ((with_reducible apply VB.dt); focus omega) | ((with_reducible apply VB.df); focus omega) | ((with_reducible apply VB.et); focus omega) | ((with_reducible apply VB.ef); focus omega) | ((with_reducible apply VB.nt); focus omega) | ((with_reducible apply VB.nf); focus omega) | fail)
    conv => whnf
    refine VCall.sq (check_c num l1) ?_
    repeat' ((conv => whnf); first | refine ngo ?_ | refine VB.tt ?_ | refine VB.ff ?_ | refine VNew.keep ?_ | refine dgo ?_ | refine sgo ?_ | refine ddo ?_ | refine And.intro (Nat.le_of_ble_eq_true rfl) ?_ | ((with_reducible apply VB.id); rw [bneI]) | ((with_reducible apply VB.id); rw [beqI]) | ((with_reducible apply VB.dt); focus omega) | ((with_reducible apply VB.df); focus omega) | ((with_reducible apply VB.et); focus omega) | ((with_reducible apply VB.ef); focus omega) | ((with_reducible apply VB.nt); focus omega) | ((with_reducible apply VB.nf); focus omega) | fail)
    conv => whnf
    refine VB.ne (fun h => ?_) (fun h => ?_)
    · repeat' ((conv => whnf); first | refine ngo ?_ | refine VB.tt ?_ | refine VB.ff ?_ | refine VNew.keep ?_ | refine dgo ?_ | refine sgo ?_ | refine ddo ?_ | refine And.intro (Nat.le_of_ble_eq_true rfl) ?_ | ((with_reducible apply VB.id); rw [bneI]) | ((with_reducible apply VB.id); rw [beqI]) | ((with_reducible apply VB.dt); focus omega) | ((with_reducible apply VB.df); focus omega) | ((with_reducible apply VB.et); focus omega) | ((with_reducible apply VB.ef); focus omega) | ((with_reducible apply VB.nt); focus omega) | ((with_reducible apply VB.nf); focus omega) | fail)
      conv => whnf
      rw [show partsQ num den = chk num by rw [partsQ, if_neg h], outQ, outR, if_neg h]
      exact fz_err
    · repeat' ((conv => whnf); first | refine ngo ?_ | refine VB.tt ?_ | refine VB.ff ?_ | refine VNew.keep ?_ | refine dgo ?_ | refine sgo ?_ | refine ddo ?_ | refine And.intro (Nat.le_of_ble_eq_true rfl) ?_ | ((with_reducible apply VB.id); rw [bneI]) | ((with_reducible apply VB.id); rw [beqI]) | ((with_reducible apply VB.dt); focus omega) | ((with_reducible apply VB.df); focus omega) | ((with_reducible apply VB.et); focus omega) | ((with_reducible apply VB.ef); focus omega) | ((with_reducible apply VB.nt); focus omega) | ((with_reducible apply VB.nf); focus omega) | fail)
      conv => whnf
      refine ⟨1, .inr (.inl ⟨rfl, h⟩), by omega, [], by simp, by simp, ⟨⟨_, rfl, .cells rfl (FzL.same rfl ⟨trivial, trivial, trivial, trivial⟩)⟩, trivial⟩, ⟨⟨_, rfl, .same rfl trivial⟩, ⟨_, rfl, .same rfl (low_natL _ _)⟩, ⟨_, rfl, .same rfl (low_natL _ _)⟩, ⟨_, rfl, .same rfl (by show (0 : Nat) < 1; decide)⟩, ⟨_, rfl, .same rfl ⟨low_natL _ _, low_natL _ _, trivial⟩⟩, ⟨_, rfl, .same rfl trivial⟩, trivial⟩, rfl, by simp⟩
  · repeat' ((conv => whnf); first | refine ngo ?_ | refine VB.tt ?_ | refine VB.ff ?_ | refine VNew.keep ?_ | refine dgo ?_ | refine sgo ?_ | refine ddo ?_ | refine And.intro (Nat.le_of_ble_eq_true rfl) ?_ | ((with_reducible apply VB.id); rw [bneI]) | ((with_reducible apply VB.id); rw [beqI]) | ((with_reducible apply VB.dt); focus omega) | ((with_reducible apply VB.df); focus omega) | ((with_reducible apply VB.et); focus omega) | ((with_reducible apply VB.ef); focus omega) | ((with_reducible apply VB.nt); focus omega) | ((with_reducible apply VB.nf); focus omega) | fail)
    conv => whnf
    refine VCall.sq (check_c den l2) ?_
    repeat' ((conv => whnf); first | refine ngo ?_ | refine VB.tt ?_ | refine VB.ff ?_ | refine VNew.keep ?_ | refine dgo ?_ | refine sgo ?_ | refine ddo ?_ | refine And.intro (Nat.le_of_ble_eq_true rfl) ?_ | ((with_reducible apply VB.id); rw [bneI]) | ((with_reducible apply VB.id); rw [beqI]) | ((with_reducible apply VB.dt); focus omega) | ((with_reducible apply VB.df); focus omega) | ((with_reducible apply VB.et); focus omega) | ((with_reducible apply VB.ef); focus omega) | ((with_reducible apply VB.nt); focus omega) | ((with_reducible apply VB.nf); focus omega) | fail)
    conv => whnf
    refine VB.ne (fun h => ?_) (fun h => ?_)
    · repeat' ((conv => whnf); first | refine ngo ?_ | refine VB.tt ?_ | refine VB.ff ?_ | refine VNew.keep ?_ | refine dgo ?_ | refine sgo ?_ | refine ddo ?_ | refine And.intro (Nat.le_of_ble_eq_true rfl) ?_ | ((with_reducible apply VB.id); rw [bneI]) | ((with_reducible apply VB.id); rw [beqI]) | ((with_reducible apply VB.dt); focus omega) | ((with_reducible apply VB.df); focus omega) | ((with_reducible apply VB.et); focus omega) | ((with_reducible apply VB.ef); focus omega) | ((with_reducible apply VB.nt); focus omega) | ((with_reducible apply VB.nf); focus omega) | fail)
      conv => whnf
      rw [show partsQ num den = chk den by rw [partsQ, if_pos h1, if_neg h], outQ, outR, if_neg h]
      exact fz_err
    · repeat' ((conv => whnf); first | refine ngo ?_ | refine VB.tt ?_ | refine VB.ff ?_ | refine VNew.keep ?_ | refine dgo ?_ | refine sgo ?_ | refine ddo ?_ | refine And.intro (Nat.le_of_ble_eq_true rfl) ?_ | ((with_reducible apply VB.id); rw [bneI]) | ((with_reducible apply VB.id); rw [beqI]) | ((with_reducible apply VB.dt); focus omega) | ((with_reducible apply VB.df); focus omega) | ((with_reducible apply VB.et); focus omega) | ((with_reducible apply VB.ef); focus omega) | ((with_reducible apply VB.nt); focus omega) | ((with_reducible apply VB.nf); focus omega) | fail)
      conv => whnf
      refine ⟨2, .inr (.inr ⟨rfl, h1, h⟩), by omega, [], by simp, by simp, ⟨⟨_, rfl, .cells rfl (FzL.same rfl ⟨trivial, trivial, trivial, trivial⟩)⟩, trivial⟩, ⟨⟨_, rfl, .same rfl trivial⟩, ⟨_, rfl, .same rfl (low_natL _ _)⟩, ⟨_, rfl, .same rfl (low_natL _ _)⟩, ⟨_, rfl, .same rfl (by show (0 : Nat) < 1; decide)⟩, ⟨_, rfl, .same rfl ⟨low_natL _ _, low_natL _ _, trivial⟩⟩, ⟨_, rfl, .same rfl trivial⟩, trivial⟩, rfl, by simp⟩
  · obtain ⟨c1, m1⟩ := chk_zero h1
    obtain ⟨c2, m2⟩ := chk_zero h2
    repeat' ((conv => whnf); first | refine ngo ?_ | refine VB.tt ?_ | refine VB.ff ?_ | refine VNew.keep ?_ | refine dgo ?_ | refine sgo ?_ | refine ddo ?_ | refine And.intro (Nat.le_of_ble_eq_true rfl) ?_ | ((with_reducible apply VB.id); rw [bneI]) | ((with_reducible apply VB.id); rw [beqI]) | ((with_reducible apply VB.dt); focus omega) | ((with_reducible apply VB.df); focus omega) | ((with_reducible apply VB.et); focus omega) | ((with_reducible apply VB.ef); focus omega) | ((with_reducible apply VB.nt); focus omega) | ((with_reducible apply VB.nf); focus omega) | fail)
    conv => whnf
    refine VB.eq (fun h3 => ?_) (fun h3 => ?_)
    · have : den = [] := List.length_eq_zero_iff.1 (by omega)
      repeat' ((conv => whnf); first | refine ngo ?_ | refine VB.tt ?_ | refine VB.ff ?_ | refine VNew.keep ?_ | refine dgo ?_ | refine sgo ?_ | refine ddo ?_ | refine And.intro (Nat.le_of_ble_eq_true rfl) ?_ | ((with_reducible apply VB.id); rw [bneI]) | ((with_reducible apply VB.id); rw [beqI]) | ((with_reducible apply VB.dt); focus omega) | ((with_reducible apply VB.df); focus omega) | ((with_reducible apply VB.et); focus omega) | ((with_reducible apply VB.ef); focus omega) | ((with_reducible apply VB.nt); focus omega) | ((with_reducible apply VB.nf); focus omega) | fail)
      conv => whnf
      rw [show partsQ num den = 6 by rw [partsQ, if_pos h1, if_pos h2, if_pos this], outQ, outR, if_neg (by decide)]
      exact fz_err
    · have h3' : den ≠ [] := fun e => h3 (by rw [e]; rfl)
      have hL := lowest_c (neg := neg) (n := val num) (d := val den) (val_ne_zero c2 h3') (by rw [dg_val c1]; omega) (by rw [dg_val c2]; omega)
      rw [← canon_natL c1, ← canon_natL c2] at hL
      repeat' ((conv => whnf); first | refine ngo ?_ | refine VB.tt ?_ | refine VB.ff ?_ | refine VNew.keep ?_ | refine dgo ?_ | refine sgo ?_ | refine ddo ?_ | refine And.intro (Nat.le_of_ble_eq_true rfl) ?_ | ((with_reducible apply VB.id); rw [bneI]) | ((with_reducible apply VB.id); rw [beqI]) | ((with_reducible apply VB.dt); focus omega) | ((with_reducible apply VB.df); focus omega) | ((with_reducible apply VB.et); focus omega) | ((with_reducible apply VB.ef); focus omega) | ((with_reducible apply VB.nt); focus omega) | ((with_reducible apply VB.nf); focus omega) | fail)
      conv => whnf
      refine VCall.iq (hL) ?_
      repeat' ((conv => whnf); first | refine ngo ?_ | refine VB.tt ?_ | refine VB.ff ?_ | refine VNew.keep ?_ | refine dgo ?_ | refine sgo ?_ | refine ddo ?_ | refine And.intro (Nat.le_of_ble_eq_true rfl) ?_ | ((with_reducible apply VB.id); rw [bneI]) | ((with_reducible apply VB.id); rw [beqI]) | ((with_reducible apply VB.dt); focus omega) | ((with_reducible apply VB.df); focus omega) | ((with_reducible apply VB.et); focus omega) | ((with_reducible apply VB.ef); focus omega) | ((with_reducible apply VB.nt); focus omega) | ((with_reducible apply VB.nf); focus omega) | fail)
      conv => whnf
      rw [show partsQ num den = 0 by rw [partsQ, if_pos h1, if_pos h2, if_neg h3'], outQ, outR, if_pos rfl]
      exact .same rfl ⟨low_ratV 0 _, trivial, trivial⟩

theorem qfloor_c (r : RawQ) (lr : lenQ r 1000000000000000000) : VCall EE 35 [rawV r] [] fun v H => Fz H 0 [] v (opQ1 r (ovf ((valQ r).floor : Rat)) (((valQ r).floor : Rat))) := by
  refine VCall.of_body true Try.func35 rfl (by decide) rfl ?_
  repeat' ((conv => whnf); first | refine ngo ?_ | refine VB.tt ?_ | refine VB.ff ?_ | refine VNew.keep ?_ | refine dgo ?_ | refine sgo ?_ | refine ddo ?_ | refine And.intro (Nat.le_of_ble_eq_true rfl) ?_ | ((with_reducible apply VB.id); rw [bneI]) | ((with_reducible apply VB.id); rw [beqI]) | ((with_reducible apply VB.dt); focus omega) | ((with_reducible apply VB.df); focus omega) | ((with_reducible apply VB.et); focus omega) | ((with_reducible apply VB.ef); focus omega) | ((with_reducible apply VB.nt); focus omega) | ((with_reducible apply VB.nf); focus omega) | fail)
  conv => whnf
  refine VCall.sq (qcheck_raw lr.1 lr.2) ?_
  repeat' ((conv => whnf); first | refine ngo ?_ | refine VB.tt ?_ | refine VB.ff ?_ | refine VNew.keep ?_ | refine dgo ?_ | refine sgo ?_ | refine ddo ?_ | refine And.intro (Nat.le_of_ble_eq_true rfl) ?_ | ((with_reducible apply VB.id); rw [bneI]) | ((with_reducible apply VB.id); rw [beqI]) | ((with_reducible apply VB.dt); focus omega) | ((with_reducible apply VB.df); focus omega) | ((with_reducible apply VB.et); focus omega) | ((with_reducible apply VB.ef); focus omega) | ((with_reducible apply VB.nt); focus omega) | ((with_reducible apply VB.nf); focus omega) | fail)
  conv => whnf
  refine VB.ne (fun h => ?_) (fun h => ?_)
  · have h : chkQ r ≠ 0 := h
    repeat' ((conv => whnf); first | refine ngo ?_ | refine VB.tt ?_ | refine VB.ff ?_ | refine VNew.keep ?_ | refine dgo ?_ | refine sgo ?_ | refine ddo ?_ | refine And.intro (Nat.le_of_ble_eq_true rfl) ?_ | ((with_reducible apply VB.id); rw [bneI]) | ((with_reducible apply VB.id); rw [beqI]) | ((with_reducible apply VB.dt); focus omega) | ((with_reducible apply VB.df); focus omega) | ((with_reducible apply VB.et); focus omega) | ((with_reducible apply VB.ef); focus omega) | ((with_reducible apply VB.nt); focus omega) | ((with_reducible apply VB.nf); focus omega) | fail)
    conv => whnf
    rw [opQ1_err h]
    exact fz_err
  · have h : chkQ r = 0 := h
    obtain ⟨e1, l1, _⟩ := chkQ_zero (r := r) h
    have lf := rl_floor_any (valQ r)
    have lg := rl_floor_any (-valQ r)
    have ln := rl_neg (valQ r)
    have lm := rl_neg (((-valQ r).floor : Int) : Rat)
    rw [opQ1_zero h]
    repeat' ((conv => whnf); first | refine ngo ?_ | refine VB.tt ?_ | refine VB.ff ?_ | refine VNew.keep ?_ | refine dgo ?_ | refine sgo ?_ | refine ddo ?_ | refine And.intro (Nat.le_of_ble_eq_true rfl) ?_ | ((with_reducible apply VB.id); rw [bneI]) | ((with_reducible apply VB.id); rw [beqI]) | ((with_reducible apply VB.dt); focus omega) | ((with_reducible apply VB.df); focus omega) | ((with_reducible apply VB.et); focus omega) | ((with_reducible apply VB.ef); focus omega) | ((with_reducible apply VB.nt); focus omega) | ((with_reducible apply VB.nf); focus omega) | fail)
    conv => whnf
    show VCall EE _ [rawV r] _ _
    rw [e1]
    refine VCall.iq (down_c (valQ r) (by omega)) ?_
    repeat' ((conv => whnf); first | refine ngo ?_ | refine VB.tt ?_ | refine VB.ff ?_ | refine VNew.keep ?_ | refine dgo ?_ | refine sgo ?_ | refine ddo ?_ | refine And.intro (Nat.le_of_ble_eq_true rfl) ?_ | ((with_reducible apply VB.id); rw [bneI]) | ((with_reducible apply VB.id); rw [beqI]) | ((with_reducible apply VB.dt); focus omega) | ((with_reducible apply VB.df); focus omega) | ((with_reducible apply VB.et); focus omega) | ((with_reducible apply VB.ef); focus omega) | ((with_reducible apply VB.nt); focus omega) | ((with_reducible apply VB.nf); focus omega) | fail)
    conv => whnf
    refine VCall.iq (fitsq_c ((valQ r).floor : Rat) (by omega)) ?_
    repeat' ((conv => whnf); first | refine ngo ?_ | refine VB.tt ?_ | refine VB.ff ?_ | refine VNew.keep ?_ | refine dgo ?_ | refine sgo ?_ | refine ddo ?_ | refine And.intro (Nat.le_of_ble_eq_true rfl) ?_ | ((with_reducible apply VB.id); rw [bneI]) | ((with_reducible apply VB.id); rw [beqI]) | ((with_reducible apply VB.dt); focus omega) | ((with_reducible apply VB.df); focus omega) | ((with_reducible apply VB.et); focus omega) | ((with_reducible apply VB.ef); focus omega) | ((with_reducible apply VB.nt); focus omega) | ((with_reducible apply VB.nf); focus omega) | fail)
    conv => whnf
    exact .same rfl (low_outQ 0 _ _)
theorem sfloor_c (r : RawQ) (lr : lenQ r 1000000000000000000) : VCall EE 42 [rawV r] [] fun v H => Fz H 0 [] v (opQ1 r (ovf ((valQ r).floor : Rat)) (((valQ r).floor : Rat))) := by
  refine VCall.of_body true Try.func42 rfl (by decide) rfl ?_
  repeat' ((conv => whnf); first | refine ngo ?_ | refine VB.tt ?_ | refine VB.ff ?_ | refine VNew.keep ?_ | refine dgo ?_ | refine sgo ?_ | refine ddo ?_ | refine And.intro (Nat.le_of_ble_eq_true rfl) ?_ | ((with_reducible apply VB.id); rw [bneI]) | ((with_reducible apply VB.id); rw [beqI]) | ((with_reducible apply VB.dt); focus omega) | ((with_reducible apply VB.df); focus omega) | ((with_reducible apply VB.et); focus omega) | ((with_reducible apply VB.ef); focus omega) | ((with_reducible apply VB.nt); focus omega) | ((with_reducible apply VB.nf); focus omega) | fail)
  conv => whnf
  refine VCall.sq (scheck_raw lr.1 lr.2) ?_
  repeat' ((conv => whnf); first | refine ngo ?_ | refine VB.tt ?_ | refine VB.ff ?_ | refine VNew.keep ?_ | refine dgo ?_ | refine sgo ?_ | refine ddo ?_ | refine And.intro (Nat.le_of_ble_eq_true rfl) ?_ | ((with_reducible apply VB.id); rw [bneI]) | ((with_reducible apply VB.id); rw [beqI]) | ((with_reducible apply VB.dt); focus omega) | ((with_reducible apply VB.df); focus omega) | ((with_reducible apply VB.et); focus omega) | ((with_reducible apply VB.ef); focus omega) | ((with_reducible apply VB.nt); focus omega) | ((with_reducible apply VB.nf); focus omega) | fail)
  conv => whnf
  refine VB.ne (fun h => ?_) (fun h => ?_)
  · have h : chkQ r ≠ 0 := h
    repeat' ((conv => whnf); first | refine ngo ?_ | refine VB.tt ?_ | refine VB.ff ?_ | refine VNew.keep ?_ | refine dgo ?_ | refine sgo ?_ | refine ddo ?_ | refine And.intro (Nat.le_of_ble_eq_true rfl) ?_ | ((with_reducible apply VB.id); rw [bneI]) | ((with_reducible apply VB.id); rw [beqI]) | ((with_reducible apply VB.dt); focus omega) | ((with_reducible apply VB.df); focus omega) | ((with_reducible apply VB.et); focus omega) | ((with_reducible apply VB.ef); focus omega) | ((with_reducible apply VB.nt); focus omega) | ((with_reducible apply VB.nf); focus omega) | fail)
    conv => whnf
    rw [opQ1_err h]
    exact fz_err
  · have h : chkQ r = 0 := h
    obtain ⟨e1, l1, _⟩ := chkQ_zero (r := r) h
    have lf := rl_floor_any (valQ r)
    have lg := rl_floor_any (-valQ r)
    have ln := rl_neg (valQ r)
    have lm := rl_neg (((-valQ r).floor : Int) : Rat)
    rw [opQ1_zero h]
    repeat' ((conv => whnf); first | refine ngo ?_ | refine VB.tt ?_ | refine VB.ff ?_ | refine VNew.keep ?_ | refine dgo ?_ | refine sgo ?_ | refine ddo ?_ | refine And.intro (Nat.le_of_ble_eq_true rfl) ?_ | ((with_reducible apply VB.id); rw [bneI]) | ((with_reducible apply VB.id); rw [beqI]) | ((with_reducible apply VB.dt); focus omega) | ((with_reducible apply VB.df); focus omega) | ((with_reducible apply VB.et); focus omega) | ((with_reducible apply VB.ef); focus omega) | ((with_reducible apply VB.nt); focus omega) | ((with_reducible apply VB.nf); focus omega) | fail)
    conv => whnf
    show VCall EE _ [rawV r] _ _
    rw [e1]
    refine VCall.iq (sdown_c (valQ r) (by omega)) ?_
    repeat' ((conv => whnf); first | refine ngo ?_ | refine VB.tt ?_ | refine VB.ff ?_ | refine VNew.keep ?_ | refine dgo ?_ | refine sgo ?_ | refine ddo ?_ | refine And.intro (Nat.le_of_ble_eq_true rfl) ?_ | ((with_reducible apply VB.id); rw [bneI]) | ((with_reducible apply VB.id); rw [beqI]) | ((with_reducible apply VB.dt); focus omega) | ((with_reducible apply VB.df); focus omega) | ((with_reducible apply VB.et); focus omega) | ((with_reducible apply VB.ef); focus omega) | ((with_reducible apply VB.nt); focus omega) | ((with_reducible apply VB.nf); focus omega) | fail)
    conv => whnf
    refine VCall.iq (sfits_c ((valQ r).floor : Rat) (by omega)) ?_
    repeat' ((conv => whnf); first | refine ngo ?_ | refine VB.tt ?_ | refine VB.ff ?_ | refine VNew.keep ?_ | refine dgo ?_ | refine sgo ?_ | refine ddo ?_ | refine And.intro (Nat.le_of_ble_eq_true rfl) ?_ | ((with_reducible apply VB.id); rw [bneI]) | ((with_reducible apply VB.id); rw [beqI]) | ((with_reducible apply VB.dt); focus omega) | ((with_reducible apply VB.df); focus omega) | ((with_reducible apply VB.et); focus omega) | ((with_reducible apply VB.ef); focus omega) | ((with_reducible apply VB.nt); focus omega) | ((with_reducible apply VB.nf); focus omega) | fail)
    conv => whnf
    exact .same rfl (low_outQ 0 _ _)
theorem qceil_c (r : RawQ) (lr : lenQ r 1000000000000000000) : VCall EE 36 [rawV r] [] fun v H => Fz H 0 [] v (opQ1 r (ovf (-((-valQ r).floor : Rat))) (-((-valQ r).floor : Rat))) := by
  refine VCall.of_body true Try.func36 rfl (by decide) rfl ?_
  repeat' ((conv => whnf); first | refine ngo ?_ | refine VB.tt ?_ | refine VB.ff ?_ | refine VNew.keep ?_ | refine dgo ?_ | refine sgo ?_ | refine ddo ?_ | refine And.intro (Nat.le_of_ble_eq_true rfl) ?_ | ((with_reducible apply VB.id); rw [bneI]) | ((with_reducible apply VB.id); rw [beqI]) | ((with_reducible apply VB.dt); focus omega) | ((with_reducible apply VB.df); focus omega) | ((with_reducible apply VB.et); focus omega) | ((with_reducible apply VB.ef); focus omega) | ((with_reducible apply VB.nt); focus omega) | ((with_reducible apply VB.nf); focus omega) | fail)
  conv => whnf
  refine VCall.sq (qcheck_raw lr.1 lr.2) ?_
  repeat' ((conv => whnf); first | refine ngo ?_ | refine VB.tt ?_ | refine VB.ff ?_ | refine VNew.keep ?_ | refine dgo ?_ | refine sgo ?_ | refine ddo ?_ | refine And.intro (Nat.le_of_ble_eq_true rfl) ?_ | ((with_reducible apply VB.id); rw [bneI]) | ((with_reducible apply VB.id); rw [beqI]) | ((with_reducible apply VB.dt); focus omega) | ((with_reducible apply VB.df); focus omega) | ((with_reducible apply VB.et); focus omega) | ((with_reducible apply VB.ef); focus omega) | ((with_reducible apply VB.nt); focus omega) | ((with_reducible apply VB.nf); focus omega) | fail)
  conv => whnf
  refine VB.ne (fun h => ?_) (fun h => ?_)
  · have h : chkQ r ≠ 0 := h
    repeat' ((conv => whnf); first | refine ngo ?_ | refine VB.tt ?_ | refine VB.ff ?_ | refine VNew.keep ?_ | refine dgo ?_ | refine sgo ?_ | refine ddo ?_ | refine And.intro (Nat.le_of_ble_eq_true rfl) ?_ | ((with_reducible apply VB.id); rw [bneI]) | ((with_reducible apply VB.id); rw [beqI]) | ((with_reducible apply VB.dt); focus omega) | ((with_reducible apply VB.df); focus omega) | ((with_reducible apply VB.et); focus omega) | ((with_reducible apply VB.ef); focus omega) | ((with_reducible apply VB.nt); focus omega) | ((with_reducible apply VB.nf); focus omega) | fail)
    conv => whnf
    rw [opQ1_err h]
    exact fz_err
  · have h : chkQ r = 0 := h
    obtain ⟨e1, l1, _⟩ := chkQ_zero (r := r) h
    have lf := rl_floor_any (valQ r)
    have lg := rl_floor_any (-valQ r)
    have ln := rl_neg (valQ r)
    have lm := rl_neg (((-valQ r).floor : Int) : Rat)
    rw [opQ1_zero h]
    repeat' ((conv => whnf); first | refine ngo ?_ | refine VB.tt ?_ | refine VB.ff ?_ | refine VNew.keep ?_ | refine dgo ?_ | refine sgo ?_ | refine ddo ?_ | refine And.intro (Nat.le_of_ble_eq_true rfl) ?_ | ((with_reducible apply VB.id); rw [bneI]) | ((with_reducible apply VB.id); rw [beqI]) | ((with_reducible apply VB.dt); focus omega) | ((with_reducible apply VB.df); focus omega) | ((with_reducible apply VB.et); focus omega) | ((with_reducible apply VB.ef); focus omega) | ((with_reducible apply VB.nt); focus omega) | ((with_reducible apply VB.nf); focus omega) | fail)
    conv => whnf
    show VCall EE _ [rawV r] _ _
    rw [e1]
    refine VCall.iq (minus_c (valQ r) (by omega)) ?_
    repeat' ((conv => whnf); first | refine ngo ?_ | refine VB.tt ?_ | refine VB.ff ?_ | refine VNew.keep ?_ | refine dgo ?_ | refine sgo ?_ | refine ddo ?_ | refine And.intro (Nat.le_of_ble_eq_true rfl) ?_ | ((with_reducible apply VB.id); rw [bneI]) | ((with_reducible apply VB.id); rw [beqI]) | ((with_reducible apply VB.dt); focus omega) | ((with_reducible apply VB.df); focus omega) | ((with_reducible apply VB.et); focus omega) | ((with_reducible apply VB.ef); focus omega) | ((with_reducible apply VB.nt); focus omega) | ((with_reducible apply VB.nf); focus omega) | fail)
    conv => whnf
    refine VCall.iq (down_c (-valQ r) (by omega)) ?_
    repeat' ((conv => whnf); first | refine ngo ?_ | refine VB.tt ?_ | refine VB.ff ?_ | refine VNew.keep ?_ | refine dgo ?_ | refine sgo ?_ | refine ddo ?_ | refine And.intro (Nat.le_of_ble_eq_true rfl) ?_ | ((with_reducible apply VB.id); rw [bneI]) | ((with_reducible apply VB.id); rw [beqI]) | ((with_reducible apply VB.dt); focus omega) | ((with_reducible apply VB.df); focus omega) | ((with_reducible apply VB.et); focus omega) | ((with_reducible apply VB.ef); focus omega) | ((with_reducible apply VB.nt); focus omega) | ((with_reducible apply VB.nf); focus omega) | fail)
    conv => whnf
    refine VCall.iq (minus_c ((-valQ r).floor : Rat) (by omega)) ?_
    repeat' ((conv => whnf); first | refine ngo ?_ | refine VB.tt ?_ | refine VB.ff ?_ | refine VNew.keep ?_ | refine dgo ?_ | refine sgo ?_ | refine ddo ?_ | refine And.intro (Nat.le_of_ble_eq_true rfl) ?_ | ((with_reducible apply VB.id); rw [bneI]) | ((with_reducible apply VB.id); rw [beqI]) | ((with_reducible apply VB.dt); focus omega) | ((with_reducible apply VB.df); focus omega) | ((with_reducible apply VB.et); focus omega) | ((with_reducible apply VB.ef); focus omega) | ((with_reducible apply VB.nt); focus omega) | ((with_reducible apply VB.nf); focus omega) | fail)
    conv => whnf
    refine VCall.iq (fitsq_c (-((-valQ r).floor : Rat)) (by omega)) ?_
    repeat' ((conv => whnf); first | refine ngo ?_ | refine VB.tt ?_ | refine VB.ff ?_ | refine VNew.keep ?_ | refine dgo ?_ | refine sgo ?_ | refine ddo ?_ | refine And.intro (Nat.le_of_ble_eq_true rfl) ?_ | ((with_reducible apply VB.id); rw [bneI]) | ((with_reducible apply VB.id); rw [beqI]) | ((with_reducible apply VB.dt); focus omega) | ((with_reducible apply VB.df); focus omega) | ((with_reducible apply VB.et); focus omega) | ((with_reducible apply VB.ef); focus omega) | ((with_reducible apply VB.nt); focus omega) | ((with_reducible apply VB.nf); focus omega) | fail)
    conv => whnf
    exact .same rfl (low_outQ 0 _ _)
theorem sup_c (q : Rat) (hl : rl q < 100000) : VCall EE 86 [ratV q] [] fun v H => Fz H 0 [] v (ratV (-((-q).floor : Rat))) := by
  refine VCall.of_body true Try.func86 rfl (by decide) rfl ?_
  have ln := rl_neg q
  repeat' ((conv => whnf); first | refine ngo ?_ | refine VB.tt ?_ | refine VB.ff ?_ | refine VNew.keep ?_ | refine dgo ?_ | refine sgo ?_ | refine ddo ?_ | refine And.intro (Nat.le_of_ble_eq_true rfl) ?_ | ((with_reducible apply VB.id); rw [bneI]) | ((with_reducible apply VB.id); rw [beqI]) | ((with_reducible apply VB.dt); focus omega) | ((with_reducible apply VB.df); focus omega) | ((with_reducible apply VB.et); focus omega) | ((with_reducible apply VB.ef); focus omega) | ((with_reducible apply VB.nt); focus omega) | ((with_reducible apply VB.nf); focus omega) | fail)
  conv => whnf
  refine VCall.iq (sminus_c q) ?_
  repeat' ((conv => whnf); first | refine ngo ?_ | refine VB.tt ?_ | refine VB.ff ?_ | refine VNew.keep ?_ | refine dgo ?_ | refine sgo ?_ | refine ddo ?_ | refine And.intro (Nat.le_of_ble_eq_true rfl) ?_ | ((with_reducible apply VB.id); rw [bneI]) | ((with_reducible apply VB.id); rw [beqI]) | ((with_reducible apply VB.dt); focus omega) | ((with_reducible apply VB.df); focus omega) | ((with_reducible apply VB.et); focus omega) | ((with_reducible apply VB.ef); focus omega) | ((with_reducible apply VB.nt); focus omega) | ((with_reducible apply VB.nf); focus omega) | fail)
  conv => whnf
  refine VCall.iq (sdown_c (-q) (by omega)) ?_
  repeat' ((conv => whnf); first | refine ngo ?_ | refine VB.tt ?_ | refine VB.ff ?_ | refine VNew.keep ?_ | refine dgo ?_ | refine sgo ?_ | refine ddo ?_ | refine And.intro (Nat.le_of_ble_eq_true rfl) ?_ | ((with_reducible apply VB.id); rw [bneI]) | ((with_reducible apply VB.id); rw [beqI]) | ((with_reducible apply VB.dt); focus omega) | ((with_reducible apply VB.df); focus omega) | ((with_reducible apply VB.et); focus omega) | ((with_reducible apply VB.ef); focus omega) | ((with_reducible apply VB.nt); focus omega) | ((with_reducible apply VB.nf); focus omega) | fail)
  conv => whnf
  refine VCall.iq (sminus_c ((-q).floor : Rat)) ?_
  repeat' ((conv => whnf); first | refine ngo ?_ | refine VB.tt ?_ | refine VB.ff ?_ | refine VNew.keep ?_ | refine dgo ?_ | refine sgo ?_ | refine ddo ?_ | refine And.intro (Nat.le_of_ble_eq_true rfl) ?_ | ((with_reducible apply VB.id); rw [bneI]) | ((with_reducible apply VB.id); rw [beqI]) | ((with_reducible apply VB.dt); focus omega) | ((with_reducible apply VB.df); focus omega) | ((with_reducible apply VB.et); focus omega) | ((with_reducible apply VB.ef); focus omega) | ((with_reducible apply VB.nt); focus omega) | ((with_reducible apply VB.nf); focus omega) | fail)
  conv => whnf
  exact .same rfl (low_ratV 0 _)
theorem sceil_c (r : RawQ) (lr : lenQ r 1000000000000000000) : VCall EE 43 [rawV r] [] fun v H => Fz H 0 [] v (opQ1 r (ovf (-((-valQ r).floor : Rat))) (-((-valQ r).floor : Rat))) := by
  refine VCall.of_body true Try.func43 rfl (by decide) rfl ?_
  repeat' ((conv => whnf); first | refine ngo ?_ | refine VB.tt ?_ | refine VB.ff ?_ | refine VNew.keep ?_ | refine dgo ?_ | refine sgo ?_ | refine ddo ?_ | refine And.intro (Nat.le_of_ble_eq_true rfl) ?_ | ((with_reducible apply VB.id); rw [bneI]) | ((with_reducible apply VB.id); rw [beqI]) | ((with_reducible apply VB.dt); focus omega) | ((with_reducible apply VB.df); focus omega) | ((with_reducible apply VB.et); focus omega) | ((with_reducible apply VB.ef); focus omega) | ((with_reducible apply VB.nt); focus omega) | ((with_reducible apply VB.nf); focus omega) | fail)
  conv => whnf
  refine VCall.sq (scheck_raw lr.1 lr.2) ?_
  repeat' ((conv => whnf); first | refine ngo ?_ | refine VB.tt ?_ | refine VB.ff ?_ | refine VNew.keep ?_ | refine dgo ?_ | refine sgo ?_ | refine ddo ?_ | refine And.intro (Nat.le_of_ble_eq_true rfl) ?_ | ((with_reducible apply VB.id); rw [bneI]) | ((with_reducible apply VB.id); rw [beqI]) | ((with_reducible apply VB.dt); focus omega) | ((with_reducible apply VB.df); focus omega) | ((with_reducible apply VB.et); focus omega) | ((with_reducible apply VB.ef); focus omega) | ((with_reducible apply VB.nt); focus omega) | ((with_reducible apply VB.nf); focus omega) | fail)
  conv => whnf
  refine VB.ne (fun h => ?_) (fun h => ?_)
  · have h : chkQ r ≠ 0 := h
    repeat' ((conv => whnf); first | refine ngo ?_ | refine VB.tt ?_ | refine VB.ff ?_ | refine VNew.keep ?_ | refine dgo ?_ | refine sgo ?_ | refine ddo ?_ | refine And.intro (Nat.le_of_ble_eq_true rfl) ?_ | ((with_reducible apply VB.id); rw [bneI]) | ((with_reducible apply VB.id); rw [beqI]) | ((with_reducible apply VB.dt); focus omega) | ((with_reducible apply VB.df); focus omega) | ((with_reducible apply VB.et); focus omega) | ((with_reducible apply VB.ef); focus omega) | ((with_reducible apply VB.nt); focus omega) | ((with_reducible apply VB.nf); focus omega) | fail)
    conv => whnf
    rw [opQ1_err h]
    exact fz_err
  · have h : chkQ r = 0 := h
    obtain ⟨e1, l1, _⟩ := chkQ_zero (r := r) h
    have lf := rl_floor_any (valQ r)
    have lg := rl_floor_any (-valQ r)
    have ln := rl_neg (valQ r)
    have lm := rl_neg (((-valQ r).floor : Int) : Rat)
    rw [opQ1_zero h]
    repeat' ((conv => whnf); first | refine ngo ?_ | refine VB.tt ?_ | refine VB.ff ?_ | refine VNew.keep ?_ | refine dgo ?_ | refine sgo ?_ | refine ddo ?_ | refine And.intro (Nat.le_of_ble_eq_true rfl) ?_ | ((with_reducible apply VB.id); rw [bneI]) | ((with_reducible apply VB.id); rw [beqI]) | ((with_reducible apply VB.dt); focus omega) | ((with_reducible apply VB.df); focus omega) | ((with_reducible apply VB.et); focus omega) | ((with_reducible apply VB.ef); focus omega) | ((with_reducible apply VB.nt); focus omega) | ((with_reducible apply VB.nf); focus omega) | fail)
    conv => whnf
    show VCall EE _ [rawV r] _ _
    rw [e1]
    refine VCall.iq (sup_c (valQ r) (by omega)) ?_
    repeat' ((conv => whnf); first | refine ngo ?_ | refine VB.tt ?_ | refine VB.ff ?_ | refine VNew.keep ?_ | refine dgo ?_ | refine sgo ?_ | refine ddo ?_ | refine And.intro (Nat.le_of_ble_eq_true rfl) ?_ | ((with_reducible apply VB.id); rw [bneI]) | ((with_reducible apply VB.id); rw [beqI]) | ((with_reducible apply VB.dt); focus omega) | ((with_reducible apply VB.df); focus omega) | ((with_reducible apply VB.et); focus omega) | ((with_reducible apply VB.ef); focus omega) | ((with_reducible apply VB.nt); focus omega) | ((with_reducible apply VB.nf); focus omega) | fail)
    conv => whnf
    refine VCall.iq (sfits_c (-((-valQ r).floor : Rat)) (by omega)) ?_
    repeat' ((conv => whnf); first | refine ngo ?_ | refine VB.tt ?_ | refine VB.ff ?_ | refine VNew.keep ?_ | refine dgo ?_ | refine sgo ?_ | refine ddo ?_ | refine And.intro (Nat.le_of_ble_eq_true rfl) ?_ | ((with_reducible apply VB.id); rw [bneI]) | ((with_reducible apply VB.id); rw [beqI]) | ((with_reducible apply VB.dt); focus omega) | ((with_reducible apply VB.df); focus omega) | ((with_reducible apply VB.et); focus omega) | ((with_reducible apply VB.ef); focus omega) | ((with_reducible apply VB.nt); focus omega) | ((with_reducible apply VB.nf); focus omega) | fail)
    conv => whnf
    exact .same rfl (low_outQ 0 _ _)

/-- A whole number as an int, or which error. -/
theorem sint_c {neg : Bool} {n d : Nat} (ln : (dg n).length < 100000) : VCall EE 88 [.agg [.bool neg, natv n, natv d]] [] fun v H => v = .tup [.int .i64 (if fitsI neg n then sgn neg n else 0), .int .i64 (if fitsI neg n then 0 else 5)] := by
  refine VCall.of_body true Try.func88 rfl (by decide) rfl ?_
  have hcan : canon [854775808, 223372036, 9] := by rw [← canonB_iff]; decide
  have hO := rorder_c (canon_dg n) hcan (by omega) (by decide)
  rw [val_dg, show val [854775808, 223372036, 9] = 9223372036854775808 by decide] at hO
  repeat' ((conv => whnf); first | refine ngo ?_ | refine VB.tt ?_ | refine VB.ff ?_ | refine dgo ?_ | refine sgo ?_ | refine ddo ?_ | refine And.intro (Nat.le_of_ble_eq_true rfl) ?_ | ((with_reducible apply VB.id); rw [bneI]) | ((with_reducible apply VB.id); rw [beqI]) | ((with_reducible apply VB.dt); focus omega) | ((with_reducible apply VB.df); focus omega) | ((with_reducible apply VB.et); focus omega) | ((with_reducible apply VB.ef); focus omega) | ((with_reducible apply VB.nt); focus omega) | ((with_reducible apply VB.nf); focus omega) | fail)
  conv => whnf
  refine VNew.dat (cs' := limbs [854775808, 223372036, 9]) rfl rfl ?_
  repeat' ((conv => whnf); first | refine ngo ?_ | refine VB.tt ?_ | refine VB.ff ?_ | refine VNew.keep ?_ | refine dgo ?_ | refine sgo ?_ | refine ddo ?_ | refine And.intro (Nat.le_of_ble_eq_true rfl) ?_ | ((with_reducible apply VB.id); rw [bneI]) | ((with_reducible apply VB.id); rw [beqI]) | ((with_reducible apply VB.dt); focus omega) | ((with_reducible apply VB.df); focus omega) | ((with_reducible apply VB.et); focus omega) | ((with_reducible apply VB.ef); focus omega) | ((with_reducible apply VB.nt); focus omega) | ((with_reducible apply VB.nf); focus omega) | fail)
  conv => whnf
  refine VCall.sq (hO) ?_
  repeat' ((conv => whnf); first | refine ngo ?_ | refine VB.tt ?_ | refine VB.ff ?_ | refine VNew.keep ?_ | refine dgo ?_ | refine sgo ?_ | refine ddo ?_ | refine And.intro (Nat.le_of_ble_eq_true rfl) ?_ | ((with_reducible apply VB.id); rw [bneI]) | ((with_reducible apply VB.id); rw [beqI]) | ((with_reducible apply VB.dt); focus omega) | ((with_reducible apply VB.df); focus omega) | ((with_reducible apply VB.et); focus omega) | ((with_reducible apply VB.ef); focus omega) | ((with_reducible apply VB.nt); focus omega) | ((with_reducible apply VB.nf); focus omega) | fail)
  conv => whnf
  refine VB.dec (fun h => ?_) (fun h => ?_)
  · have hn : ¬ n ≤ 9223372036854775808 := fun e => by
      rcases Nat.lt_or_eq_of_le e with e | e
      · rw [cmpN_lt e] at h; omega
      · rw [cmpN_eq e] at h; omega
    repeat' ((conv => whnf); first | refine ngo ?_ | refine VB.tt ?_ | refine VB.ff ?_ | refine VNew.keep ?_ | refine dgo ?_ | refine sgo ?_ | refine ddo ?_ | refine And.intro (Nat.le_of_ble_eq_true rfl) ?_ | ((with_reducible apply VB.id); rw [bneI]) | ((with_reducible apply VB.id); rw [beqI]) | ((with_reducible apply VB.dt); focus omega) | ((with_reducible apply VB.df); focus omega) | ((with_reducible apply VB.et); focus omega) | ((with_reducible apply VB.ef); focus omega) | ((with_reducible apply VB.nt); focus omega) | ((with_reducible apply VB.nf); focus omega) | fail)
    conv => whnf
    rw [if_neg (fun e => hn (fitsI_le e)), if_neg (fun e => hn (fitsI_le e))]
  · have hn : n ≤ 9223372036854775808 := by
      rcases Nat.lt_or_ge 9223372036854775808 n with e | e
      · rw [cmpN_gt e] at h; omega
      · exact e
    have hvn := val_dg n
    have hlen : (dg n).length ≤ 3 := length_dg_lt (Nat.lt_of_le_of_lt hn (by decide))
    have hok := okL_dg n
    have hBB : BB = 1000000000 := rfl
    repeat' ((conv => whnf); first | refine ngo ?_ | refine VB.tt ?_ | refine VB.ff ?_ | refine VNew.keep ?_ | refine dgo ?_ | refine sgo ?_ | refine ddo ?_ | refine And.intro (Nat.le_of_ble_eq_true rfl) ?_ | ((with_reducible apply VB.id); rw [bneI]) | ((with_reducible apply VB.id); rw [beqI]) | ((with_reducible apply VB.dt); focus omega) | ((with_reducible apply VB.df); focus omega) | ((with_reducible apply VB.et); focus omega) | ((with_reducible apply VB.ef); focus omega) | ((with_reducible apply VB.nt); focus omega) | ((with_reducible apply VB.nf); focus omega) | fail)
    conv => whnf
    refine VLoop.ix true (fun i : Nat => ⟨[(1, .ptr 0 0 0), (4, .int .i64 (-(val ((dg n).drop i) : Int))), (5, .int .i64 (i - 1))], [.cells 0 25 [.bool neg, natv n, natv d], .gone], []⟩) (fun i => i ≤ (dg n).length) id (dg n).length (Nat.le_refl _) ⟨⟨rfl, by simp [lk, val], rfl, trivial⟩, rfl, rfl⟩ ?_
    rintro i hi
    have hge := val_ge_drop (dg n) i
    repeat' ((conv => whnf); first | refine ngo ?_ | refine VB.tt ?_ | refine VB.ff ?_ | refine VNew.keep ?_ | refine dgo ?_ | refine sgo ?_ | refine ddo ?_ | refine And.intro (Nat.le_of_ble_eq_true rfl) ?_ | ((with_reducible apply VB.id); rw [bneI]) | ((with_reducible apply VB.id); rw [beqI]) | ((with_reducible apply VB.dt); focus omega) | ((with_reducible apply VB.df); focus omega) | ((with_reducible apply VB.et); focus omega) | ((with_reducible apply VB.ef); focus omega) | ((with_reducible apply VB.nt); focus omega) | ((with_reducible apply VB.nf); focus omega) | fail)
    conv => whnf
    refine VB.dec (fun h2 => ?_) (fun h2 => ?_)
    · obtain ⟨i, rfl⟩ : ∃ k, i = k + 1 := ⟨i - 1, by omega⟩
      have ei : (((i + 1 : Nat) : Int) - 1).toNat = i := by omega
      have hs := val_drop_succ (l := dg n) (i := i) (by omega)
      have hg := val_ge_drop (dg n) i
      have hd : (dg n).getD i 0 < 1000000000 := hok _ (by simp [List.getD_eq_getElem?_getD, show i < (dg n).length by omega])
      rw [hvn] at hg hge
      rw [hBB] at hs
      repeat' ((conv => whnf); first | refine ngo ?_ | refine VB.tt ?_ | refine VB.ff ?_ | refine VNew.keep ?_ | refine dgo ?_ | refine sgo ?_ | refine ddo ?_ | refine And.intro (Nat.le_of_ble_eq_true rfl) ?_ | ((with_reducible apply VB.id); rw [bneI]) | ((with_reducible apply VB.id); rw [beqI]) | ((with_reducible apply VB.dt); focus omega) | ((with_reducible apply VB.df); focus omega) | ((with_reducible apply VB.et); focus omega) | ((with_reducible apply VB.ef); focus omega) | ((with_reducible apply VB.nt); focus omega) | ((with_reducible apply VB.nf); focus omega) | fail)
      conv => whnf
      rw [ei, Nat.mul_one, getInt_limbs]
      generalize hgd : (dg n).getD i 0 = x at *
      generalize val ((dg n).drop (i + 1)) = y at *
      generalize hzz : val ((dg n).drop i) = z at *
      repeat' ((conv => whnf); first | refine ngo ?_ | refine VB.tt ?_ | refine VB.ff ?_ | refine VNew.keep ?_ | refine dgo ?_ | refine sgo ?_ | refine ddo ?_ | refine And.intro (Nat.le_of_ble_eq_true rfl) ?_ | ((with_reducible apply VB.id); rw [bneI]) | ((with_reducible apply VB.id); rw [beqI]) | ((with_reducible apply VB.dt); focus omega) | ((with_reducible apply VB.df); focus omega) | ((with_reducible apply VB.et); focus omega) | ((with_reducible apply VB.ef); focus omega) | ((with_reducible apply VB.nt); focus omega) | ((with_reducible apply VB.nf); focus omega) | fail)
      conv => whnf
      refine ⟨i, by omega, by simp, ⟨⟨rfl, by simp only [lk]; exact congrArg (fun z => some (AV.int .i64 z)) (by omega), by simp [lk], trivial⟩, rfl, rfl⟩⟩
    · obtain rfl : i = 0 := by omega
      rw [List.drop_zero, hvn] at *
      clear hcan hO hok hvn
      cases neg
      · by_cases hz : n = 9223372036854775808
        · subst hz
          repeat' ((conv => whnf); first | refine ngo ?_ | refine VB.tt ?_ | refine VB.ff ?_ | refine VNew.keep ?_ | refine dgo ?_ | refine sgo ?_ | refine ddo ?_ | refine And.intro (Nat.le_of_ble_eq_true rfl) ?_ | ((with_reducible apply VB.id); rw [bneI]) | ((with_reducible apply VB.id); rw [beqI]) | ((with_reducible apply VB.dt); focus omega) | ((with_reducible apply VB.df); focus omega) | ((with_reducible apply VB.et); focus omega) | ((with_reducible apply VB.ef); focus omega) | ((with_reducible apply VB.nt); focus omega) | ((with_reducible apply VB.nf); focus omega) | fail)
          conv => whnf
          rw [if_neg (by decide), if_neg (by decide)]
        · have hf : fitsI false n := (fitsI_false n).2 (by omega)
          rw [if_pos hf, if_pos hf]
          by_cases h0 : n = 0
          · subst h0
            repeat' ((conv => whnf); first | refine ngo ?_ | refine VB.tt ?_ | refine VB.ff ?_ | refine VNew.keep ?_ | refine dgo ?_ | refine sgo ?_ | refine ddo ?_ | refine And.intro (Nat.le_of_ble_eq_true rfl) ?_ | ((with_reducible apply VB.id); rw [bneI]) | ((with_reducible apply VB.id); rw [beqI]) | ((with_reducible apply VB.dt); focus omega) | ((with_reducible apply VB.df); focus omega) | ((with_reducible apply VB.et); focus omega) | ((with_reducible apply VB.ef); focus omega) | ((with_reducible apply VB.nt); focus omega) | ((with_reducible apply VB.nf); focus omega) | fail)
            conv => whnf
            rfl
          · have hw : IntKind.i64.wrap (0 - -(n : Int)) = (n : Int) := by
              simp only [IntKind.wrap, IntKind.bits, IntKind.signed, Bool.false_and, Bool.true_and, Bool.false_eq_true, if_false, decide_eq_true_eq, ge_iff_le]
              split <;> omega
            repeat' ((conv => whnf); first | refine ngo ?_ | refine VB.tt ?_ | refine VB.ff ?_ | refine VNew.keep ?_ | refine dgo ?_ | refine sgo ?_ | refine ddo ?_ | refine And.intro (Nat.le_of_ble_eq_true rfl) ?_ | ((with_reducible apply VB.id); rw [bneI]) | ((with_reducible apply VB.id); rw [beqI]) | ((with_reducible apply VB.dt); focus omega) | ((with_reducible apply VB.df); focus omega) | ((with_reducible apply VB.et); focus omega) | ((with_reducible apply VB.ef); focus omega) | ((with_reducible apply VB.nt); focus omega) | ((with_reducible apply VB.nf); focus omega) | fail)
            conv => whnf
            rw [hw, beq_eq_false_iff_ne.2 (show -(n : Int) ≠ (n : Int) by omega)]
            repeat' ((conv => whnf); first | refine ngo ?_ | refine VB.tt ?_ | refine VB.ff ?_ | refine VNew.keep ?_ | refine dgo ?_ | refine sgo ?_ | refine ddo ?_ | refine And.intro (Nat.le_of_ble_eq_true rfl) ?_ | ((with_reducible apply VB.id); rw [bneI]) | ((with_reducible apply VB.id); rw [beqI]) | ((with_reducible apply VB.dt); focus omega) | ((with_reducible apply VB.df); focus omega) | ((with_reducible apply VB.et); focus omega) | ((with_reducible apply VB.ef); focus omega) | ((with_reducible apply VB.nt); focus omega) | ((with_reducible apply VB.nf); focus omega) | fail)
            conv => whnf
            rw [hw]
            rfl
      · repeat' ((conv => whnf); first | refine ngo ?_ | refine VB.tt ?_ | refine VB.ff ?_ | refine VNew.keep ?_ | refine dgo ?_ | refine sgo ?_ | refine ddo ?_ | refine And.intro (Nat.le_of_ble_eq_true rfl) ?_ | ((with_reducible apply VB.id); rw [bneI]) | ((with_reducible apply VB.id); rw [beqI]) | ((with_reducible apply VB.dt); focus omega) | ((with_reducible apply VB.df); focus omega) | ((with_reducible apply VB.et); focus omega) | ((with_reducible apply VB.ef); focus omega) | ((with_reducible apply VB.nt); focus omega) | ((with_reducible apply VB.nf); focus omega) | fail)
        conv => whnf
        rw [if_pos ((fitsI_true n).2 hn), if_pos ((fitsI_true n).2 hn)]
        rfl
theorem sscale_c (r : RawQ) (n : Int) (lr : lenQ r 1000000000000000000) (h1 : -9223372036854775808 ≤ n) (h2 : n < 9223372036854775808) : VCall EE 45 [rawV r, .int .i64 n] [] fun v H => v = scaR r n := by
  refine VCall.of_body true Try.func45 rfl (by decide) rfl ?_
  repeat' ((conv => whnf); first | refine ngo ?_ | refine VB.tt ?_ | refine VB.ff ?_ | refine VNew.keep ?_ | refine dgo ?_ | refine sgo ?_ | refine ddo ?_ | refine And.intro (Nat.le_of_ble_eq_true rfl) ?_ | ((with_reducible apply VB.id); rw [bneI]) | ((with_reducible apply VB.id); rw [beqI]) | ((with_reducible apply VB.dt); focus omega) | ((with_reducible apply VB.df); focus omega) | ((with_reducible apply VB.et); focus omega) | ((with_reducible apply VB.ef); focus omega) | ((with_reducible apply VB.nt); focus omega) | ((with_reducible apply VB.nf); focus omega) | fail)
  conv => whnf
  refine VCall.sq (scheck_raw lr.1 lr.2) ?_
  repeat' ((conv => whnf); first | refine ngo ?_ | refine VB.tt ?_ | refine VB.ff ?_ | refine VNew.keep ?_ | refine dgo ?_ | refine sgo ?_ | refine ddo ?_ | refine And.intro (Nat.le_of_ble_eq_true rfl) ?_ | ((with_reducible apply VB.id); rw [bneI]) | ((with_reducible apply VB.id); rw [beqI]) | ((with_reducible apply VB.dt); focus omega) | ((with_reducible apply VB.df); focus omega) | ((with_reducible apply VB.et); focus omega) | ((with_reducible apply VB.ef); focus omega) | ((with_reducible apply VB.nt); focus omega) | ((with_reducible apply VB.nf); focus omega) | fail)
  conv => whnf
  refine VB.ne (fun h => ?_) (fun h => ?_)
  · repeat' ((conv => whnf); first | refine ngo ?_ | refine VB.tt ?_ | refine VB.ff ?_ | refine VNew.keep ?_ | refine dgo ?_ | refine sgo ?_ | refine ddo ?_ | refine And.intro (Nat.le_of_ble_eq_true rfl) ?_ | ((with_reducible apply VB.id); rw [bneI]) | ((with_reducible apply VB.id); rw [beqI]) | ((with_reducible apply VB.dt); focus omega) | ((with_reducible apply VB.df); focus omega) | ((with_reducible apply VB.et); focus omega) | ((with_reducible apply VB.ef); focus omega) | ((with_reducible apply VB.nt); focus omega) | ((with_reducible apply VB.nf); focus omega) | fail)
    conv => whnf
    rw [scaR, scaN, scaE, if_neg h, if_neg (fun e => h e.1)]
  · have h : chkQ r = 0 := h
    obtain ⟨e1, l1, _⟩ := chkQ_zero (r := r) h
    have ln := rl_int h1 h2
    have lm := rl_mul (valQ r) (n : Rat)
    repeat' ((conv => whnf); first | refine ngo ?_ | refine VB.tt ?_ | refine VB.ff ?_ | refine VNew.keep ?_ | refine dgo ?_ | refine sgo ?_ | refine ddo ?_ | refine And.intro (Nat.le_of_ble_eq_true rfl) ?_ | ((with_reducible apply VB.id); rw [bneI]) | ((with_reducible apply VB.id); rw [beqI]) | ((with_reducible apply VB.dt); focus omega) | ((with_reducible apply VB.df); focus omega) | ((with_reducible apply VB.et); focus omega) | ((with_reducible apply VB.ef); focus omega) | ((with_reducible apply VB.nt); focus omega) | ((with_reducible apply VB.nf); focus omega) | fail)
    conv => whnf
    refine VIso.iq (swhole_c h1 h2) ?_
    repeat' ((conv => whnf); first | refine ngo ?_ | refine VB.tt ?_ | refine VB.ff ?_ | refine VNew.keep ?_ | refine dgo ?_ | refine sgo ?_ | refine ddo ?_ | refine And.intro (Nat.le_of_ble_eq_true rfl) ?_ | ((with_reducible apply VB.id); rw [bneI]) | ((with_reducible apply VB.id); rw [beqI]) | ((with_reducible apply VB.dt); focus omega) | ((with_reducible apply VB.df); focus omega) | ((with_reducible apply VB.et); focus omega) | ((with_reducible apply VB.ef); focus omega) | ((with_reducible apply VB.nt); focus omega) | ((with_reducible apply VB.nf); focus omega) | fail)
    conv => whnf
    show VIso EE _ [rawV r, ratV (n : Rat)] _
    rw [e1]
    refine VIso.iq (stimes_c (valQ r) (n : Rat) (by omega)) ?_
    repeat' ((conv => whnf); first | refine ngo ?_ | refine VB.tt ?_ | refine VB.ff ?_ | refine VNew.keep ?_ | refine dgo ?_ | refine sgo ?_ | refine ddo ?_ | refine And.intro (Nat.le_of_ble_eq_true rfl) ?_ | ((with_reducible apply VB.id); rw [bneI]) | ((with_reducible apply VB.id); rw [beqI]) | ((with_reducible apply VB.dt); focus omega) | ((with_reducible apply VB.df); focus omega) | ((with_reducible apply VB.et); focus omega) | ((with_reducible apply VB.ef); focus omega) | ((with_reducible apply VB.nt); focus omega) | ((with_reducible apply VB.nf); focus omega) | fail)
    conv => whnf
    refine VIso.iq (sdown_c (valQ r * (n : Rat)) (by omega)) ?_
    have hm : scaV (valQ r) n = (valQ r * (n : Rat)).floor := rfl
    have lf := rl_floor_any (valQ r * (n : Rat))
    rw [← hm] at lf ⊢
    have hI := sint_c (neg := decide (scaV (valQ r) n < 0)) (n := (scaV (valQ r) n).natAbs) (d := 1) (by
      have := rl_num ((scaV (valQ r) n : Int) : Rat)
      rw [Rat.num_intCast] at this
      omega)
    have hff := fits_floor (m := scaV (valQ r) n)
    have hsg : sgn (decide (scaV (valQ r) n < 0)) (scaV (valQ r) n).natAbs = scaV (valQ r) n := by
      have := sgn_num ((scaV (valQ r) n : Int) : Rat)
      rwa [Rat.num_intCast] at this
    have hN : scaR r n = .tup [.int .i64 (if scaF (valQ r) n then scaV (valQ r) n else 0), .int .i64 (if scaF (valQ r) n then 0 else 5)] := by
      rw [scaR, scaN, scaE, if_pos h]
      by_cases hf : scaF (valQ r) n
      · rw [if_pos ⟨h, hf⟩, if_pos hf, if_pos hf]
      · rw [if_neg (fun e => hf e.2), if_neg hf, if_neg hf]
    rw [hN]
    have hfd : scaF (valQ r) n ↔ (-9223372036854775808 ≤ scaV (valQ r) n ∧ scaV (valQ r) n < 9223372036854775808) := Iff.rfl
    have hE : (AV.tup [.int .i64 (if fitsI (decide (scaV (valQ r) n < 0)) (scaV (valQ r) n).natAbs then sgn (decide (scaV (valQ r) n < 0)) (scaV (valQ r) n).natAbs else 0), .int .i64 (if fitsI (decide (scaV (valQ r) n < 0)) (scaV (valQ r) n).natAbs then 0 else 5)]) = .tup [.int .i64 (if scaF (valQ r) n then scaV (valQ r) n else 0), .int .i64 (if scaF (valQ r) n then 0 else 5)] := by
      by_cases hf : scaF (valQ r) n
      · have hg := hff.2 (hfd.1 hf)
        rw [if_pos hf, if_pos hf, if_pos hg, if_pos hg, hsg]
      · have hg := fun e => hf (hfd.2 (hff.1 e))
        rw [if_neg hf, if_neg hf, if_neg hg, if_neg hg]
    rw [hE] at hI
    have hr : ratV ((scaV (valQ r) n : Int) : Rat) = .agg [.bool (decide (scaV (valQ r) n < 0)), natv (scaV (valQ r) n).natAbs, natv 1] := by
      unfold ratV
      rw [Rat.num_intCast, Rat.den_intCast]
    rw [← hr] at hI
    repeat' ((conv => whnf); first | refine ngo ?_ | refine VB.tt ?_ | refine VB.ff ?_ | refine VNew.keep ?_ | refine dgo ?_ | refine sgo ?_ | refine ddo ?_ | refine And.intro (Nat.le_of_ble_eq_true rfl) ?_ | ((with_reducible apply VB.id); rw [bneI]) | ((with_reducible apply VB.id); rw [beqI]) | ((with_reducible apply VB.dt); focus omega) | ((with_reducible apply VB.df); focus omega) | ((with_reducible apply VB.et); focus omega) | ((with_reducible apply VB.ef); focus omega) | ((with_reducible apply VB.nt); focus omega) | ((with_reducible apply VB.nf); focus omega) | fail)
    conv => whnf
    refine VIso.sq (hI) ?_
    repeat' ((conv => whnf); first | refine ngo ?_ | refine VB.tt ?_ | refine VB.ff ?_ | refine VNew.keep ?_ | refine dgo ?_ | refine sgo ?_ | refine ddo ?_ | refine And.intro (Nat.le_of_ble_eq_true rfl) ?_ | ((with_reducible apply VB.id); rw [bneI]) | ((with_reducible apply VB.id); rw [beqI]) | ((with_reducible apply VB.dt); focus omega) | ((with_reducible apply VB.df); focus omega) | ((with_reducible apply VB.et); focus omega) | ((with_reducible apply VB.ef); focus omega) | ((with_reducible apply VB.nt); focus omega) | ((with_reducible apply VB.nf); focus omega) | fail)
    conv => whnf
end Go.Proofs.Ytoijfbdjlagooaa


/- Contracts: the law RatWholes. -/
namespace Go.Proofs.Ytoijfbdjlagooaa
open Go Go.RowKit
set_option linter.unusedVariables false
set_option linter.unusedSimpArgs false
set_option maxRecDepth 100000

theorem outQ_ex {e : Int} {q : Rat} (h : e = 0 → rl q ≤ 1024) : ∃ (r : RawQ) (f : Int), outQ e q = .tup [rawV r, .int .i64 f] ∧ r.num.length < 1000000000 ∧ r.den.length < 1000000000 := by
  refine ⟨_, _, rfl, ?_⟩
  by_cases he : e = 0
  · rw [outR, if_pos he]
    exact len_rq (h he)
  · rw [outR, if_neg he]
    exact len_rz
theorem opQ1_ex (r : RawQ) {q : Rat} : ∃ (s : RawQ) (f : Int), opQ1 r (ovf q) q = .tup [rawV s, .int .i64 f] ∧ s.num.length < 1000000000 ∧ s.den.length < 1000000000 := by
  unfold opQ1
  refine outQ_ex fun h => ?_
  split at h
  · exact ovf_zero h
  · contradiction
set_option maxHeartbeats 4000000 in
theorem ratwholes_raw {an : Bool} {anum aden : List Nat} {m n : Int} (m1 : -9223372036854775808 ≤ m) (m2 : m < 9223372036854775808) (n1 : -9223372036854775808 ≤ n) (n2 : n < 9223372036854775808) : VCall EE 8 [.agg [.bool an, natL anum, natL aden], .int .i64 m, .int .i64 n] [] fun v H => v = .bool true := by
  have A1 := qlong_raw (neg := an) (num := anum) (den := aden)
  by_cases hla : lngQ ⟨an, anum, aden⟩
  · rw [decide_eq_true hla] at A1
    refine VCall.of_body true Try.func8 rfl (by decide) rfl ?_
    repeat' ((conv => whnf); first | refine ngo ?_ | refine VB.tt ?_ | refine VB.ff ?_ | refine VNew.keep ?_ | refine dgo ?_ | refine sgo ?_ | refine ddo ?_ | refine And.intro (Nat.le_of_ble_eq_true rfl) ?_ | ((with_reducible apply VB.id); rw [bneI]) | ((with_reducible apply VB.id); rw [beqI]) | ((with_reducible apply VB.dt); focus omega) | ((with_reducible apply VB.df); focus omega) | ((with_reducible apply VB.et); focus omega) | ((with_reducible apply VB.ef); focus omega) | ((with_reducible apply VB.nt); focus omega) | ((with_reducible apply VB.nf); focus omega) | fail)
    conv => whnf
    refine VCall.sq (A1) ?_
    repeat' ((conv => whnf); first | refine ngo ?_ | refine VB.tt ?_ | refine VB.ff ?_ | refine VNew.keep ?_ | refine dgo ?_ | refine sgo ?_ | refine ddo ?_ | refine And.intro (Nat.le_of_ble_eq_true rfl) ?_ | ((with_reducible apply VB.id); rw [bneI]) | ((with_reducible apply VB.id); rw [beqI]) | ((with_reducible apply VB.dt); focus omega) | ((with_reducible apply VB.df); focus omega) | ((with_reducible apply VB.et); focus omega) | ((with_reducible apply VB.ef); focus omega) | ((with_reducible apply VB.nt); focus omega) | ((with_reducible apply VB.nf); focus omega) | fail)
    conv => whnf
    refine VCall.sq (qawake_c) ?_
    repeat' ((conv => whnf); first | refine ngo ?_ | refine VB.tt ?_ | refine VB.ff ?_ | refine VNew.keep ?_ | refine dgo ?_ | refine sgo ?_ | refine ddo ?_ | refine And.intro (Nat.le_of_ble_eq_true rfl) ?_ | ((with_reducible apply VB.id); rw [bneI]) | ((with_reducible apply VB.id); rw [beqI]) | ((with_reducible apply VB.dt); focus omega) | ((with_reducible apply VB.df); focus omega) | ((with_reducible apply VB.et); focus omega) | ((with_reducible apply VB.ef); focus omega) | ((with_reducible apply VB.nt); focus omega) | ((with_reducible apply VB.nf); focus omega) | fail)
    conv => whnf
  rw [decide_eq_false hla] at A1
  obtain ⟨la, a1, a2⟩ := lngQ_not hla
  dsimp only at a1 a2
  clear hla
  have b1 := qof_c m1 m2 n1 n2
  have b2 := sof_c m1 m2 n1 n2
  have c1 := qmake_c (neg := an) (num := anum) (den := aden) (by omega) (by omega)
  have c2 := smake_c (neg := an) (num := anum) (den := aden) (by omega) (by omega)
  have d1 := qfloor_c ⟨an, anum, aden⟩ la
  have d2 := sfloor_c ⟨an, anum, aden⟩ la
  have e1 := qceil_c ⟨an, anum, aden⟩ la
  have e2 := sceil_c ⟨an, anum, aden⟩ la
  have f1 := qscale_c ⟨an, anum, aden⟩ n la n1 n2
  have f2 := sscale_c ⟨an, anum, aden⟩ n la n1 n2
  unfold scaR at f1 f2
  generalize scaN ⟨an, anum, aden⟩ n = sn at *
  generalize scaE ⟨an, anum, aden⟩ n = se at *
  obtain ⟨br, bf, hb, lb⟩ := outQ_ex (e := if n = 0 then 6 else 0) (q := ofQ m n) fun h => by
    split at h
    · cases h
    · have := rl_ofQ m1 m2 n1 n2 (by assumption)
      omega
  rw [hb] at b1 b2
  obtain ⟨cr, cf, hc, lc⟩ := outQ_ex (e := partsQ anum aden) (q := mkQ an (val anum) (val aden)) rl_parts
  rw [hc] at c1 c2
  obtain ⟨dr, df, hd, ld⟩ := opQ1_ex ⟨an, anum, aden⟩ (q := ((valQ ⟨an, anum, aden⟩).floor : Rat))
  rw [hd] at d1 d2
  obtain ⟨er, ef, he, le⟩ := opQ1_ex ⟨an, anum, aden⟩ (q := (-((-valQ ⟨an, anum, aden⟩).floor : Rat)))
  rw [he] at e1 e2
  have b3 := samerat_same br lb.1 lb.2
  have c3 := samerat_same cr lc.1 lc.2
  have d3 := samerat_same dr ld.1 ld.2
  have e3 := samerat_same er le.1 le.2
  clear hb hc hd he la
  refine VCall.of_body true Try.func8 rfl (by decide) rfl ?_
  repeat' ((conv => whnf); first | refine ngo ?_ | refine VB.tt ?_ | refine VB.ff ?_ | refine VNew.keep ?_ | refine dgo ?_ | refine sgo ?_ | refine ddo ?_ | refine And.intro (Nat.le_of_ble_eq_true rfl) ?_ | ((with_reducible apply VB.id); rw [bneI]) | ((with_reducible apply VB.id); rw [beqI]) | ((with_reducible apply VB.dt); focus omega) | ((with_reducible apply VB.df); focus omega) | ((with_reducible apply VB.et); focus omega) | ((with_reducible apply VB.ef); focus omega) | ((with_reducible apply VB.nt); focus omega) | ((with_reducible apply VB.nf); focus omega) | fail)
  conv => whnf
  refine VCall.sq (A1) ?_
  repeat' ((conv => whnf); first | refine ngo ?_ | refine VB.tt ?_ | refine VB.ff ?_ | refine VNew.keep ?_ | refine dgo ?_ | refine sgo ?_ | refine ddo ?_ | refine And.intro (Nat.le_of_ble_eq_true rfl) ?_ | ((with_reducible apply VB.id); rw [bneI]) | ((with_reducible apply VB.id); rw [beqI]) | ((with_reducible apply VB.dt); focus omega) | ((with_reducible apply VB.df); focus omega) | ((with_reducible apply VB.et); focus omega) | ((with_reducible apply VB.ef); focus omega) | ((with_reducible apply VB.nt); focus omega) | ((with_reducible apply VB.nf); focus omega) | fail)
  conv => whnf
  refine VCall.iq (b1) ?_
  repeat' ((conv => whnf); first | refine ngo ?_ | refine VB.tt ?_ | refine VB.ff ?_ | refine VNew.keep ?_ | refine dgo ?_ | refine sgo ?_ | refine ddo ?_ | refine And.intro (Nat.le_of_ble_eq_true rfl) ?_ | ((with_reducible apply VB.id); rw [bneI]) | ((with_reducible apply VB.id); rw [beqI]) | ((with_reducible apply VB.dt); focus omega) | ((with_reducible apply VB.df); focus omega) | ((with_reducible apply VB.et); focus omega) | ((with_reducible apply VB.ef); focus omega) | ((with_reducible apply VB.nt); focus omega) | ((with_reducible apply VB.nf); focus omega) | fail)
  conv => whnf
  refine VCall.iq (b2) ?_
  repeat' ((conv => whnf); first | refine ngo ?_ | refine VB.tt ?_ | refine VB.ff ?_ | refine VNew.keep ?_ | refine dgo ?_ | refine sgo ?_ | refine ddo ?_ | refine And.intro (Nat.le_of_ble_eq_true rfl) ?_ | ((with_reducible apply VB.id); rw [bneI]) | ((with_reducible apply VB.id); rw [beqI]) | ((with_reducible apply VB.dt); focus omega) | ((with_reducible apply VB.df); focus omega) | ((with_reducible apply VB.et); focus omega) | ((with_reducible apply VB.ef); focus omega) | ((with_reducible apply VB.nt); focus omega) | ((with_reducible apply VB.nf); focus omega) | fail)
  conv => whnf
  refine VCall.sq (b3) ?_
  repeat' ((conv => whnf); first | refine VB.tt ?_ | refine VB.ff ?_ | refine VNew.keep ?_ | refine dgo ?_ | refine sgo ?_ | refine ddo ?_ | refine And.intro (Nat.le_of_ble_eq_true rfl) ?_ | ((with_reducible apply VB.id); rw [bneI]) | ((with_reducible apply VB.id); rw [beqI]) | ((with_reducible apply VB.dt); focus omega) | ((with_reducible apply VB.df); focus omega) | ((with_reducible apply VB.et); focus omega) | ((with_reducible apply VB.ef); focus omega) | ((with_reducible apply VB.nt); focus omega) | ((with_reducible apply VB.nf); focus omega) | fail)
  conv => whnf
  refine VNext.at_ true ⟨[(38, .bool false), (1, .int .i64 m), (2, .int .i64 n), (3, .ptr 0 0 0), (7, .ptr 1 0 0), (9, .ptr 2 0 0)], [.cells 0 25 [.bool an, natL anum, natL aden], .cells 0 25 (rawC br), .cells 0 25 (rawC br)], []⟩ ⟨by (repeat' first | exact trivial | exact And.intro (by first | rfl | (simp [lk]; done)) trivial | refine And.intro (by first | rfl | (simp [lk]; done)) ?_), rfl, rfl⟩ ?_
  repeat' ((conv => whnf); first | refine ngo ?_ | refine VB.tt ?_ | refine VB.ff ?_ | refine VNew.keep ?_ | refine dgo ?_ | refine sgo ?_ | refine ddo ?_ | refine And.intro (Nat.le_of_ble_eq_true rfl) ?_ | ((with_reducible apply VB.id); rw [bneI]) | ((with_reducible apply VB.id); rw [beqI]) | ((with_reducible apply VB.dt); focus omega) | ((with_reducible apply VB.df); focus omega) | ((with_reducible apply VB.et); focus omega) | ((with_reducible apply VB.ef); focus omega) | ((with_reducible apply VB.nt); focus omega) | ((with_reducible apply VB.nf); focus omega) | fail)
  conv => whnf
  refine VCall.iq (c1) ?_
  repeat' ((conv => whnf); first | refine ngo ?_ | refine VB.tt ?_ | refine VB.ff ?_ | refine VNew.keep ?_ | refine dgo ?_ | refine sgo ?_ | refine ddo ?_ | refine And.intro (Nat.le_of_ble_eq_true rfl) ?_ | ((with_reducible apply VB.id); rw [bneI]) | ((with_reducible apply VB.id); rw [beqI]) | ((with_reducible apply VB.dt); focus omega) | ((with_reducible apply VB.df); focus omega) | ((with_reducible apply VB.et); focus omega) | ((with_reducible apply VB.ef); focus omega) | ((with_reducible apply VB.nt); focus omega) | ((with_reducible apply VB.nf); focus omega) | fail)
  conv => whnf
  refine VCall.iq (c2) ?_
  repeat' ((conv => whnf); first | refine ngo ?_ | refine VB.tt ?_ | refine VB.ff ?_ | refine VNew.keep ?_ | refine dgo ?_ | refine sgo ?_ | refine ddo ?_ | refine And.intro (Nat.le_of_ble_eq_true rfl) ?_ | ((with_reducible apply VB.id); rw [bneI]) | ((with_reducible apply VB.id); rw [beqI]) | ((with_reducible apply VB.dt); focus omega) | ((with_reducible apply VB.df); focus omega) | ((with_reducible apply VB.et); focus omega) | ((with_reducible apply VB.ef); focus omega) | ((with_reducible apply VB.nt); focus omega) | ((with_reducible apply VB.nf); focus omega) | fail)
  conv => whnf
  refine VCall.sq (c3) ?_
  repeat' ((conv => whnf); first | refine VB.tt ?_ | refine VB.ff ?_ | refine VNew.keep ?_ | refine dgo ?_ | refine sgo ?_ | refine ddo ?_ | refine And.intro (Nat.le_of_ble_eq_true rfl) ?_ | ((with_reducible apply VB.id); rw [bneI]) | ((with_reducible apply VB.id); rw [beqI]) | ((with_reducible apply VB.dt); focus omega) | ((with_reducible apply VB.df); focus omega) | ((with_reducible apply VB.et); focus omega) | ((with_reducible apply VB.ef); focus omega) | ((with_reducible apply VB.nt); focus omega) | ((with_reducible apply VB.nf); focus omega) | fail)
  conv => whnf
  refine VNext.at_ true ⟨[(67, .bool false), (1, .int .i64 m), (2, .int .i64 n), (3, .ptr 0 0 0), (7, .ptr 1 0 0), (9, .ptr 2 0 0)], [.cells 0 25 [.bool an, natL anum, natL aden], .cells 0 25 (rawC cr), .cells 0 25 (rawC cr)], []⟩ ⟨by (repeat' first | exact trivial | exact And.intro (by first | rfl | (simp [lk]; done)) trivial | refine And.intro (by first | rfl | (simp [lk]; done)) ?_), rfl, rfl⟩ ?_
  repeat' ((conv => whnf); first | refine ngo ?_ | refine VB.tt ?_ | refine VB.ff ?_ | refine VNew.keep ?_ | refine dgo ?_ | refine sgo ?_ | refine ddo ?_ | refine And.intro (Nat.le_of_ble_eq_true rfl) ?_ | ((with_reducible apply VB.id); rw [bneI]) | ((with_reducible apply VB.id); rw [beqI]) | ((with_reducible apply VB.dt); focus omega) | ((with_reducible apply VB.df); focus omega) | ((with_reducible apply VB.et); focus omega) | ((with_reducible apply VB.ef); focus omega) | ((with_reducible apply VB.nt); focus omega) | ((with_reducible apply VB.nf); focus omega) | fail)
  conv => whnf
  refine VCall.iq (d1) ?_
  repeat' ((conv => whnf); first | refine ngo ?_ | refine VB.tt ?_ | refine VB.ff ?_ | refine VNew.keep ?_ | refine dgo ?_ | refine sgo ?_ | refine ddo ?_ | refine And.intro (Nat.le_of_ble_eq_true rfl) ?_ | ((with_reducible apply VB.id); rw [bneI]) | ((with_reducible apply VB.id); rw [beqI]) | ((with_reducible apply VB.dt); focus omega) | ((with_reducible apply VB.df); focus omega) | ((with_reducible apply VB.et); focus omega) | ((with_reducible apply VB.ef); focus omega) | ((with_reducible apply VB.nt); focus omega) | ((with_reducible apply VB.nf); focus omega) | fail)
  conv => whnf
  refine VCall.iq (d2) ?_
  repeat' ((conv => whnf); first | refine ngo ?_ | refine VB.tt ?_ | refine VB.ff ?_ | refine VNew.keep ?_ | refine dgo ?_ | refine sgo ?_ | refine ddo ?_ | refine And.intro (Nat.le_of_ble_eq_true rfl) ?_ | ((with_reducible apply VB.id); rw [bneI]) | ((with_reducible apply VB.id); rw [beqI]) | ((with_reducible apply VB.dt); focus omega) | ((with_reducible apply VB.df); focus omega) | ((with_reducible apply VB.et); focus omega) | ((with_reducible apply VB.ef); focus omega) | ((with_reducible apply VB.nt); focus omega) | ((with_reducible apply VB.nf); focus omega) | fail)
  conv => whnf
  refine VCall.sq (d3) ?_
  repeat' ((conv => whnf); first | refine VB.tt ?_ | refine VB.ff ?_ | refine VNew.keep ?_ | refine dgo ?_ | refine sgo ?_ | refine ddo ?_ | refine And.intro (Nat.le_of_ble_eq_true rfl) ?_ | ((with_reducible apply VB.id); rw [bneI]) | ((with_reducible apply VB.id); rw [beqI]) | ((with_reducible apply VB.dt); focus omega) | ((with_reducible apply VB.df); focus omega) | ((with_reducible apply VB.et); focus omega) | ((with_reducible apply VB.ef); focus omega) | ((with_reducible apply VB.nt); focus omega) | ((with_reducible apply VB.nf); focus omega) | fail)
  conv => whnf
  refine VNext.at_ true ⟨[(86, .bool false), (1, .int .i64 m), (2, .int .i64 n), (3, .ptr 0 0 0), (7, .ptr 1 0 0), (9, .ptr 2 0 0)], [.cells 0 25 [.bool an, natL anum, natL aden], .cells 0 25 (rawC dr), .cells 0 25 (rawC dr)], []⟩ ⟨by (repeat' first | exact trivial | exact And.intro (by first | rfl | (simp [lk]; done)) trivial | refine And.intro (by first | rfl | (simp [lk]; done)) ?_), rfl, rfl⟩ ?_
  repeat' ((conv => whnf); first | refine ngo ?_ | refine VB.tt ?_ | refine VB.ff ?_ | refine VNew.keep ?_ | refine dgo ?_ | refine sgo ?_ | refine ddo ?_ | refine And.intro (Nat.le_of_ble_eq_true rfl) ?_ | ((with_reducible apply VB.id); rw [bneI]) | ((with_reducible apply VB.id); rw [beqI]) | ((with_reducible apply VB.dt); focus omega) | ((with_reducible apply VB.df); focus omega) | ((with_reducible apply VB.et); focus omega) | ((with_reducible apply VB.ef); focus omega) | ((with_reducible apply VB.nt); focus omega) | ((with_reducible apply VB.nf); focus omega) | fail)
  conv => whnf
  refine VCall.iq (e1) ?_
  repeat' ((conv => whnf); first | refine ngo ?_ | refine VB.tt ?_ | refine VB.ff ?_ | refine VNew.keep ?_ | refine dgo ?_ | refine sgo ?_ | refine ddo ?_ | refine And.intro (Nat.le_of_ble_eq_true rfl) ?_ | ((with_reducible apply VB.id); rw [bneI]) | ((with_reducible apply VB.id); rw [beqI]) | ((with_reducible apply VB.dt); focus omega) | ((with_reducible apply VB.df); focus omega) | ((with_reducible apply VB.et); focus omega) | ((with_reducible apply VB.ef); focus omega) | ((with_reducible apply VB.nt); focus omega) | ((with_reducible apply VB.nf); focus omega) | fail)
  conv => whnf
  refine VCall.iq (e2) ?_
  repeat' ((conv => whnf); first | refine ngo ?_ | refine VB.tt ?_ | refine VB.ff ?_ | refine VNew.keep ?_ | refine dgo ?_ | refine sgo ?_ | refine ddo ?_ | refine And.intro (Nat.le_of_ble_eq_true rfl) ?_ | ((with_reducible apply VB.id); rw [bneI]) | ((with_reducible apply VB.id); rw [beqI]) | ((with_reducible apply VB.dt); focus omega) | ((with_reducible apply VB.df); focus omega) | ((with_reducible apply VB.et); focus omega) | ((with_reducible apply VB.ef); focus omega) | ((with_reducible apply VB.nt); focus omega) | ((with_reducible apply VB.nf); focus omega) | fail)
  conv => whnf
  refine VCall.sq (f1) ?_
  repeat' ((conv => whnf); first | refine ngo ?_ | refine VB.tt ?_ | refine VB.ff ?_ | refine VNew.keep ?_ | refine dgo ?_ | refine sgo ?_ | refine ddo ?_ | refine And.intro (Nat.le_of_ble_eq_true rfl) ?_ | ((with_reducible apply VB.id); rw [bneI]) | ((with_reducible apply VB.id); rw [beqI]) | ((with_reducible apply VB.dt); focus omega) | ((with_reducible apply VB.df); focus omega) | ((with_reducible apply VB.et); focus omega) | ((with_reducible apply VB.ef); focus omega) | ((with_reducible apply VB.nt); focus omega) | ((with_reducible apply VB.nf); focus omega) | fail)
  conv => whnf
  refine VCall.sq (f2) ?_
  repeat' ((conv => whnf); first | refine ngo ?_ | refine VB.tt ?_ | refine VB.ff ?_ | refine VNew.keep ?_ | refine dgo ?_ | refine sgo ?_ | refine ddo ?_ | refine And.intro (Nat.le_of_ble_eq_true rfl) ?_ | ((with_reducible apply VB.id); rw [bneI]) | ((with_reducible apply VB.id); rw [beqI]) | ((with_reducible apply VB.dt); focus omega) | ((with_reducible apply VB.df); focus omega) | ((with_reducible apply VB.et); focus omega) | ((with_reducible apply VB.ef); focus omega) | ((with_reducible apply VB.nt); focus omega) | ((with_reducible apply VB.nf); focus omega) | fail)
  conv => whnf
  refine VCall.sq (e3) ?_
  repeat' ((conv => whnf); first | refine ngo ?_ | refine VB.tt ?_ | refine VB.ff ?_ | refine VNew.keep ?_ | refine dgo ?_ | refine sgo ?_ | refine ddo ?_ | refine And.intro (Nat.le_of_ble_eq_true rfl) ?_ | ((with_reducible apply VB.id); rw [bneI]) | ((with_reducible apply VB.id); rw [beqI]) | ((with_reducible apply VB.dt); focus omega) | ((with_reducible apply VB.df); focus omega) | ((with_reducible apply VB.et); focus omega) | ((with_reducible apply VB.ef); focus omega) | ((with_reducible apply VB.nt); focus omega) | ((with_reducible apply VB.nf); focus omega) | fail)
  conv => whnf
  refine VCall.sq (qawake_c) ?_
  repeat' ((conv => whnf); first | refine ngo ?_ | refine VB.tt ?_ | refine VB.ff ?_ | refine VNew.keep ?_ | refine dgo ?_ | refine sgo ?_ | refine ddo ?_ | refine And.intro (Nat.le_of_ble_eq_true rfl) ?_ | ((with_reducible apply VB.id); rw [bneI]) | ((with_reducible apply VB.id); rw [beqI]) | ((with_reducible apply VB.dt); focus omega) | ((with_reducible apply VB.df); focus omega) | ((with_reducible apply VB.et); focus omega) | ((with_reducible apply VB.ef); focus omega) | ((with_reducible apply VB.nt); focus omega) | ((with_reducible apply VB.nf); focus omega) | fail)
  conv => whnf
theorem ratwholes_c (r : RawQ) (m : Int) (m1 : -9223372036854775808 ≤ m) (m2 : m < 9223372036854775808) (n : Int) (n1 : -9223372036854775808 ≤ n) (n2 : n < 9223372036854775808) : VCall EE 8 [rawV r, .int .i64 m, .int .i64 n] [] fun v H => v = .bool true := ratwholes_raw m1 m2 n1 n2
end Go.Proofs.Ytoijfbdjlagooaa

/- From a law's contract to the machine's call. -/
namespace Go.Proofs.Ytoijfbdjlagooaa
open Go Go.RowKit
set_option linter.unusedVariables false
set_option linter.unusedSimpArgs false

/-- The view ahead of a law: all that lies in memory is data. -/
def Conc.start (W : World) : Conc := Conc.alone (fun c o => W.cell? ⟨c, o, none⟩) W

theorem HR.start {E : Env} {W : World} (hG : ∀ g cs, E.G g = some cs → CR (Conc.start W) cs g 0) : HR E (Conc.start W) [] W :=
  ⟨rfl, fun b o i e => by simp at e, fun b i e => by simp [Conc.start, Conc.alone] at e, fun b b' i i' e => by simp [Conc.start, Conc.alone] at e, fun b i o ob eo ek e => by simp [Conc.start, Conc.alone] at e,
    fun _ _ _ h => h, Below.refl _ _, Nat.le_refl _, hG⟩

theorem law_walk {E : Env} {f : FuncId} {args : List AV} {cargs : List Value} {W : World} (hG : ∀ g cs, E.G g = some cs → CR (Conc.start W) cs g 0) (h : VCall E f args [] fun v H => v = .bool true) (hv : VRL (Conc.start W) args cargs) :
    Calls E.P f cargs.toArray W fun e W' => e = .returned (.bool true) ∧ Below W.heap.size W W' := by
  have h1 := callsIn_wide.1 (h.call _ cargs W (HR.start hG) hv)
  refine h1.mono fun e W' q => ?_
  obtain ⟨v, cv, K', H', rfl, hx, hH, hr, rfl⟩ := q
  simp only [VR] at hr
  subst hr
  refine ⟨rfl, ?_⟩
  have h2 := hH.below
  rw [hx.hB, hx.hw] at h2
  exact h2

/-- A slice of whole numbers, as it lies ahead of a law. -/
def IsRow (k : IntKind) (w : World) (a : Option Addr) (len cap : Nat) (zs : List Int) : Prop :=
  (a = none ∧ len = 0 ∧ cap = 0 ∧ zs = []) ∨
  ∃ x, a = some x ∧ len ≤ cap ∧ cap ≤ maxLen ∧ zs.length = cap ∧ (∀ i, i < zs.length → w.cell? (x.add i) = some (.int k (zs.getD i 0))) ∧ ∀ n ∈ zs, (Lit.int k n).wf = true

def ints (k : IntKind) (l : List Int) : List AV := l.map (.int k)
theorem VRL.ints {K : Conc} {k : IntKind} : ∀ (l : List Int), VRL K (Go.Proofs.Ytoijfbdjlagooaa.ints k l) (l.map (.int k))
  | [] => rfl
  | n :: l => ⟨_, _, rfl, rfl, VRL.ints l⟩

theorem IsRow.vr {k : IntKind} {w : World} {a : Option Addr} {len cap : Nat} {zs : List Int} (h : IsRow k w a len cap zs) : VR (Conc.start w) (.dsl (ints k (zs.take len)) len) (.slice a len cap) ∧ len ≤ maxLen ∧ (zs.take len).length = len := by
  rcases h with ⟨rfl, rfl, rfl, rfl⟩ | ⟨x, rfl, hl, hm, hz, hc, hw⟩
  · exact ⟨⟨none, 0, rfl, Nat.le_refl _, fun hne => absurd rfl hne⟩, Nat.zero_le _, rfl⟩
  · refine ⟨?_, by omega, by rw [List.length_take]; omega⟩
    simp only [VR]
    refine ⟨some x, cap, rfl, hl, fun hne => ?_⟩
    have hlen : 0 < len := by
      rcases Nat.eq_zero_or_pos len with h0 | h0
      · subst h0; exact absurd rfl hne
      · exact h0
    have hx : x = ⟨x.block, x.off, none⟩ := by
      have h0 := hc 0 (by omega)
      rw [show x.add 0 = x from rfl] at h0
      unfold World.cell? at h0
      split at h0
      · split at h0
        · cases h0
        · rename_i hs
          obtain ⟨b, o, s⟩ := x
          cases s with
          | none => rfl
          | some y => exact absurd rfl hs
      · cases h0
    refine ⟨x.block, x.off, by rw [← hx], CR.of (VRL.ints _) (fun j u hj => ?_) (List.all_eq_true.2 fun y hy => by obtain ⟨n, _, rfl⟩ := List.mem_map.1 hy; rfl)⟩
    rw [List.getElem?_map, List.getElem?_take] at hj
    split at hj
    · obtain ⟨n, hn, rfl⟩ := Option.map_eq_some_iff.1 hj
      have hjz := (List.getElem?_eq_some_iff.1 hn).1
      have h1 := hc j hjz
      rw [hx, add_off, List.getD_eq_getElem?_getD, hn] at h1
      exact h1
    · cases hj

theorem wf_u32 {n : Int} (h : (Lit.int .u32 n).wf = true) : 0 ≤ n ∧ n < 4294967296 := by
  simp only [Lit.wf, Bool.and_eq_true, decide_eq_true_eq] at h
  have h1 : IntKind.min .u32 = 0 := rfl
  have h2 : IntKind.max .u32 = 4294967295 := rfl
  omega
theorem wf_i64 {n : Int} (h : (Lit.int .i64 n).wf = true) : -9223372036854775808 ≤ n ∧ n < 9223372036854775808 := by
  simp only [Lit.wf, Bool.and_eq_true, decide_eq_true_eq] at h
  have h1 : IntKind.min .i64 = -9223372036854775808 := rfl
  have h2 : IntKind.max .i64 = 9223372036854775807 := rfl
  omega

theorem IsRow.nat {w : World} {a : Option Addr} {len cap : Nat} {zs : List Int} (h : IsRow .u32 w a len cap zs) :
    ∃ l : List Nat, VR (Conc.start w) (natL l) (.slice a len cap) ∧ l.length < 9223372036854775808 ∧ ∀ x ∈ l, x < 4294967296 := by
  obtain ⟨h1, h2, h3⟩ := h.vr
  have hw : ∀ n ∈ zs.take len, 0 ≤ n ∧ n < 4294967296 := by
    rcases h with ⟨rfl, rfl, rfl, rfl⟩ | ⟨x, rfl, hl, hm, hz, hc, hw⟩
    · intro n hn; simp at hn
    · exact fun n hn => wf_u32 (hw n (List.mem_of_mem_take hn))
  have e : ints .u32 (zs.take len) = limbs ((zs.take len).map Int.toNat) := by
    simp only [ints, limbs, List.map_map]
    refine List.map_congr_left fun n hn => ?_
    simp [Int.toNat_of_nonneg (hw n hn).1]
  refine ⟨(zs.take len).map Int.toNat, ?_, ?_, ?_⟩
  · rw [natL, ← e, List.length_map, h3]; exact h1
  · rw [List.length_map, h3]; simp only [maxLen] at h2; omega
  · intro x hx
    obtain ⟨n, hn, rfl⟩ := List.mem_map.1 hx
    have := hw n hn
    omega

end Go.Proofs.Ytoijfbdjlagooaa


/- Fractions as they lie ahead of a law. -/
namespace Go.Proofs.Ytoijfbdjlagooaa
open Go Go.RowKit
set_option linter.unusedVariables false
set_option linter.unusedSimpArgs false

theorem isRow_of {H : Type} {enc : TypeId × Value → H} {P : Program} {W : World} {held : Bool} {fuel : Nat} {t e : TypeId} {cs : List Value} {x : DataW H × List MemPlace} (ht : P.underlying t = some (.slice e)) (he : P.underlying e = some (.int .u32)) (hc : P.cellsOf e = 1)
    (h : DataW.trod enc P W 0 (fun _ => true) held fuel t cs = some x) : ∃ l : List Nat, VRL (Conc.start W) [natL l] cs ∧ l.length < 9223372036854775808 ∧ ∀ y ∈ l, y < 4294967296 := by
  have key : ∀ {a : Option Addr} {len cap : Nat} {zs : List Int}, IsRow .u32 W a len cap zs → ∃ l : List Nat, VRL (Conc.start W) [natL l] [.slice a len cap] ∧ l.length < 9223372036854775808 ∧ ∀ y ∈ l, y < 4294967296 := fun hr => by
    obtain ⟨l, h1, h2, h3⟩ := hr.nat
    exact ⟨l, ⟨_, _, rfl, h1, rfl⟩, h2, h3⟩
  rcases Go.ChangeShapes.open_ints ht he hc h with ⟨rfl, _⟩ | ⟨y, l, c, zs, rfl, _, hl, hm, hz, _, hcell, hwz⟩
  · exact key (.inl ⟨rfl, rfl, rfl, rfl⟩ : IsRow .u32 W none 0 0 [])
  · exact key (.inr ⟨_, rfl, hl, hm, by simpa using hz, hcell, hwz⟩ : IsRow .u32 W (some y) l c zs)

theorem list3 {α : Type} {l : List α} (h : l.length = 3) : l = (l.drop 0).take 1 ++ ((l.drop 1).take 1 ++ (l.drop 2).take 1) := by
  match l, h with
  | [a, b, c], _ => rfl

theorem rat_open {H : Type} {enc : TypeId × Value → H} {P : Program} {W : World} {held : Bool} {fuel : Nat} {t e : TypeId} {f0 f1 f2 : Field} {cs : List Value} {x : DataW H × List MemPlace} (ht : P.underlying t = some (.struct #[f0, f1, f2])) (h0 : P.underlying f0.type = some .bool) (h1 : P.underlying f1.type = some (.slice e)) (h2 : P.underlying f2.type = some (.slice e))
    (he : P.underlying e = some (.int .u32)) (hc : P.cellsOf e = 1) (hn : (P.cellsOf t = 3 ∧ P.cellsOf f0.type = 1 ∧ P.cellsOf f1.type = 1 ∧ P.cellsOf f2.type = 1) ∧ f0.offset = 0 ∧ f1.offset = 1 ∧ f2.offset = 2)
    (h : DataW.trod enc P W 0 (fun _ => true) held fuel t cs = some x) : ∃ r : RawQ, VRL (Conc.start W) (rawC r) cs ∧ lenQ r 9223372036854775808 := by
  obtain ⟨xs, n, _, _, hl, hlen, hf⟩ := DataW.trod_struct ht h
  obtain ⟨⟨c0, c1, c2, c3⟩, o0, o1, o2⟩ := hn
  have hx : ∀ i, i < 3 → ∃ y, xs[i]? = some y := fun i hi => ⟨xs[i]'(by rw [hlen]; exact hi), List.getElem?_eq_getElem _⟩
  obtain ⟨y0, e0⟩ := hx 0 (by decide)
  obtain ⟨y1, e1⟩ := hx 1 (by decide)
  obtain ⟨y2, e2⟩ := hx 2 (by decide)
  have g0 := hf 0 f0 rfl
  have g1 := hf 1 f1 rfl
  have g2 := hf 2 f2 rfl
  rw [e0, c1, o0] at g0
  rw [e1, c2, o1] at g1
  rw [e2, c3, o2] at g2
  obtain ⟨b, k0, _⟩ := DataW.trod_bool h0 g0
  obtain ⟨l1, k1, m1, _⟩ := isRow_of h1 he hc g1
  obtain ⟨l2, k2, m2, _⟩ := isRow_of h2 he hc g2
  refine ⟨⟨b, l1, l2⟩, ?_, m1, m2⟩
  rw [list3 (hl.trans c0), k0]
  exact ⟨_, _, rfl, rfl, VRL.append k1 k2⟩
end Go.Proofs.Ytoijfbdjlagooaa
