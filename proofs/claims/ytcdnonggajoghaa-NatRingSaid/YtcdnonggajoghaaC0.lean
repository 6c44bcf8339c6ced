/- Contracts: order. -/
import Derived.Test.YtcdnonggajoghaaG0
namespace Go.Proofs.Ytcdnonggajoghaa
open Go Go.RowKit
set_option linter.unusedVariables false
set_option linter.unusedSimpArgs false
set_option maxRecDepth 100000

theorem order_c {a b : List Nat} (ha : canon a) (hb : canon b) (la : a.length < 1000000000) (lb : b.length < 1000000000) : VCall EE 44 [natL a, natL b] [] fun v H => v = .int .i64 (cmpN (val a) (val b)) := by
  refine VCall.of_body true Try.func44 rfl (by decide) rfl ?_
  repeat' ((conv => whnf); first | refine ngo ?_ | refine VB.tt ?_ | refine VB.ff ?_ | refine VNew.keep ?_ | refine dgo ?_ | refine sgo ?_ | fail)
  conv => whnf
  refine VB.ne (fun h => ?_) (fun h => ?_)
  · repeat' ((conv => whnf); first | refine ngo ?_ | refine VB.tt ?_ | refine VB.ff ?_ | refine VNew.keep ?_ | refine dgo ?_ | refine sgo ?_ | fail)
    conv => whnf
    refine VB.dec (fun h => ?_) (fun h => ?_)
    · repeat' ((conv => whnf); first | refine ngo ?_ | refine VB.tt ?_ | refine VB.ff ?_ | refine VNew.keep ?_ | refine dgo ?_ | refine sgo ?_ | fail)
      conv => whnf
      rw [cmpN_lt (canon_lt ha.1 hb (by omega))]
    · repeat' ((conv => whnf); first | refine ngo ?_ | refine VB.tt ?_ | refine VB.ff ?_ | refine VNew.keep ?_ | refine dgo ?_ | refine sgo ?_ | fail)
      conv => whnf
      rw [cmpN_gt (canon_lt hb.1 ha (by omega))]
  · repeat' ((conv => whnf); first | refine ngo ?_ | refine VB.tt ?_ | refine VB.ff ?_ | refine VNew.keep ?_ | refine dgo ?_ | refine sgo ?_ | fail)
    conv => whnf
    refine VLoop.ix true (fun i : Nat => ⟨[(0, natL a), (1, natL b), (5, .int .i64 (i - 1))], [], []⟩) (fun i => i ≤ a.length ∧ a.drop i = b.drop i) id a.length ⟨Nat.le_refl _, by rw [List.drop_length, List.drop_eq_nil_of_le (by omega)]⟩ ⟨⟨rfl, rfl, rfl, trivial⟩, rfl, rfl⟩ ?_
    rintro i ⟨hi, hd⟩
    repeat' ((conv => whnf); first | refine ngo ?_ | refine VB.tt ?_ | refine VB.ff ?_ | refine VNew.keep ?_ | refine dgo ?_ | refine sgo ?_ | fail)
    conv => whnf
    refine VB.dec (fun h => ?_) (fun h => ?_)
    · obtain ⟨i, rfl⟩ : ∃ k, i = k + 1 := ⟨i - 1, by omega⟩
      have ei : (((i + 1 : Nat) : Int) - 1).toNat = i := by omega
      repeat' ((conv => whnf); first | refine ngo ?_ | refine VB.tt ?_ | refine VB.ff ?_ | refine VNew.keep ?_ | refine dgo ?_ | refine sgo ?_ | fail)
      conv => whnf
      rw [ei, Nat.mul_one, getInt_limbs, getInt_limbs]
      refine VB.ne (fun h => ?_) (fun h => ?_)
      · repeat' ((conv => whnf); first | refine ngo ?_ | refine VB.tt ?_ | refine VB.ff ?_ | refine VNew.keep ?_ | refine dgo ?_ | refine sgo ?_ | fail)
        conv => whnf
        rw [ei, Nat.mul_one, getInt_limbs, getInt_limbs]
        refine VB.dec (fun h => ?_) (fun h => ?_)
        · repeat' ((conv => whnf); first | refine ngo ?_ | refine VB.tt ?_ | refine VB.ff ?_ | refine VNew.keep ?_ | refine dgo ?_ | refine sgo ?_ | fail)
          conv => whnf
          rw [cmpN_lt (val_lt_of ha.1 hb.1 (i := i) (by omega) (by omega) hd (by omega))]
        · repeat' ((conv => whnf); first | refine ngo ?_ | refine VB.tt ?_ | refine VB.ff ?_ | refine VNew.keep ?_ | refine dgo ?_ | refine sgo ?_ | fail)
          conv => whnf
          rw [cmpN_gt (val_lt_of hb.1 ha.1 (i := i) (by omega) (by omega) hd.symm (by omega))]
      · repeat' ((conv => whnf); first | refine ngo ?_ | refine VB.tt ?_ | refine VB.ff ?_ | refine VNew.keep ?_ | refine dgo ?_ | refine sgo ?_ | fail)
        conv => whnf
        refine ⟨i, ⟨by omega, ?_⟩, by simp, ⟨⟨rfl, rfl, by simp [lk], trivial⟩, rfl, rfl⟩⟩
        rw [List.drop_eq_getElem_cons (by omega), List.drop_eq_getElem_cons (l := b) (by omega), hd]
        simp [List.getD_eq_getElem?_getD, show i < a.length by omega, show i < b.length by omega] at h
        rw [Int.ofNat.inj h]
    · have : i = 0 := by omega
      subst this
      repeat' ((conv => whnf); first | refine ngo ?_ | refine VB.tt ?_ | refine VB.ff ?_ | refine VNew.keep ?_ | refine dgo ?_ | refine sgo ?_ | fail)
      conv => whnf
      rw [cmpN_eq (by simpa using congrArg val hd)]
end Go.Proofs.Ytcdnonggajoghaa
