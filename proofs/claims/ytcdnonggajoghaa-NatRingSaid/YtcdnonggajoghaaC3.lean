/- Contracts: limbs of a number. -/
import Derived.Test.YtcdnonggajoghaaC2
namespace Go.Proofs.Ytcdnonggajoghaa
open Go Go.RowKit
set_option linter.unusedVariables false
set_option linter.unusedSimpArgs false
set_option maxRecDepth 100000

def accV : List Nat → AV
  | [] => .nsl
  | x :: l => .osl 0 l.length 0 (l.length + 1) 1
def accH (T : TypeId) : List Nat → Heap
  | [] => []
  | x :: l => [.cells l.length T (limbs (x :: l))]

theorem accV_fz (T : TypeId) (l : List Nat) : Fz (accH T l) 0 [] (accV l) (natL l) := by
  cases l with
  | nil => exact .nsl
  | cons x l => exact .nat (Nat.zero_le _) (by simp) rfl (by rw [Nat.mul_one]; exact List.take_of_length_le (by simp [limbs])) rfl

theorem of_c (n : Nat) (hn : n < 18446744073709551616) : VCall EE 55 [.int .u64 n] [] fun v H => Fz H 0 [] v (natv n) := by
  refine VCall.of_body true Try.func55 rfl (by decide) rfl ?_
  repeat' ((conv => whnf); first | refine ngo ?_ | refine VB.tt ?_ | refine VB.ff ?_ | refine VNew.keep ?_ | refine dgo ?_ | refine sgo ?_ | fail)
  conv => whnf
  refine VLoop.tr true (fun x : List Nat × Nat => ⟨[(0, .int .u64 x.2), (3, accV x.1)], accH 30 x.1, []⟩) (fun x => x.2 ≤ n ∧ x.1 ++ dg x.2 = dg n) (fun x => x.2) ([], n) ⟨Nat.le_refl _, rfl⟩ ⟨⟨rfl, rfl, trivial⟩, rfl, rfl⟩ ?_
  rintro ⟨l, r⟩ ⟨hr, he⟩
  dsimp only at hr he ⊢
  have hl : l.length < 1000000 := by
    have h1 := congrArg List.length he
    have h2 : (dg n).length ≤ 3 := length_dg_lt (Nat.lt_of_lt_of_le hn (by decide))
    rw [List.length_append] at h1
    omega
  repeat' ((conv => whnf); first | refine ngo ?_ | refine VB.tt ?_ | refine VB.ff ?_ | refine VNew.keep ?_ | refine dgo ?_ | refine sgo ?_ | fail)
  conv => whnf
  refine VB.dec (fun h => ?_) (fun h => ?_)
  · have g5 := tdiv_BB r
    have g6 := tmod_BB r
    have hm := Nat.mod_lt r (show 0 < BB by decide)
    have hdv : r / BB < r := Nat.div_lt_self (by omega) (by decide)
    have hdg := dg_pos (n := r) (by omega)
    have hBB : BB = 1000000000 := rfl
    generalize r / BB = q at *
    generalize r % BB = m at *
    cases l with
    | nil =>
      repeat' ((conv => whnf); first | refine ngo ?_ | refine VB.tt ?_ | refine VB.ff ?_ | refine VNew.keep ?_ | refine dgo ?_ | refine sgo ?_ | fail)
      conv => whnf
      rw [g6]
      repeat' ((conv => whnf); first | refine ngo ?_ | refine VB.tt ?_ | refine VB.ff ?_ | refine VNew.keep ?_ | refine dgo ?_ | refine sgo ?_ | fail)
      conv => whnf
      refine ⟨([m], q), ⟨by dsimp only; omega, by simpa [hdg] using he⟩, hdv, [1], by simp, by simp, ⟨⟨_, rfl, .cells rfl (FzL.same rfl (low_limbs _ [m]))⟩, trivial⟩, ⟨⟨_, rfl, .same (by rw [g5]) trivial⟩, ⟨_, rfl, .kosl (j := 0) rfl rfl rfl rfl⟩, trivial⟩, rfl, by simp⟩
    | cons x l =>
      simp only [List.length_cons] at hl
      repeat' ((conv => whnf); first | refine ngo ?_ | refine VB.tt ?_ | refine VB.ff ?_ | refine VNew.keep ?_ | refine dgo ?_ | refine sgo ?_ | fail)
      conv => whnf
      rw [g6]
      repeat' ((conv => whnf); first | refine ngo ?_ | refine VB.tt ?_ | refine VB.ff ?_ | refine VNew.keep ?_ | refine dgo ?_ | refine sgo ?_ | fail)
      conv => whnf
      refine ⟨(x :: l ++ [m], q), ⟨by dsimp only; omega, by simpa [hdg] using he⟩, hdv, [0], by simp, by simp, ⟨⟨_, rfl, .cells (by simp) (FzL.same ?_ (low_limbs _ (x :: l ++ [m])))⟩, trivial⟩, ⟨⟨_, rfl, .same (by rw [g5]) trivial⟩, ⟨_, rfl, .kosl (j := 0) rfl rfl (by simp) (by simp)⟩, trivial⟩, rfl, by simp⟩
      rw [Nat.mul_one, List.take_of_length_le (by simp [limbs])]
      simp [limbs]
  · have : r = 0 := by omega
    subst this
    rw [dg_zero, List.append_nil] at he
    cases l with
    | nil =>
      repeat' ((conv => whnf); first | refine ngo ?_ | refine VB.tt ?_ | refine VB.ff ?_ | refine VNew.keep ?_ | refine dgo ?_ | refine sgo ?_ | fail)
      conv => whnf
      rw [natv, ← he]
      exact .nsl
    | cons x l =>
      repeat' ((conv => whnf); first | refine ngo ?_ | refine VB.tt ?_ | refine VB.ff ?_ | refine VNew.keep ?_ | refine dgo ?_ | refine sgo ?_ | fail)
      conv => whnf
      rw [natv, ← he]
      exact accV_fz 30 (x :: l)
end Go.Proofs.Ytcdnonggajoghaa
