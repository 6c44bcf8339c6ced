/- Contracts: trim. -/
import Derived.Test.YtcdnonggajoghaaC0
namespace Go.Proofs.Ytcdnonggajoghaa
open Go Go.RowKit
set_option linter.unusedVariables false
set_option linter.unusedSimpArgs false
set_option maxRecDepth 100000

theorem dg_length_of {l : List Nat} {k : Nat} (hok : okL l) (hk : k ≤ l.length) (hv : val (l.take k) = val l) (hlast : k = 0 ∨ l.getD (k - 1) 0 ≠ 0) : (dg (val l)).length = k := by
  have hc : canon (l.take k) := by
    refine ⟨hok.take k, fun x hx => ?_⟩
    rcases hlast with rfl | h
    · simp at hx
    · by_cases hk0 : k = 0
      · subst hk0; simp at hx
      · rw [List.getLast?_eq_getElem?, List.length_take, Nat.min_eq_left hk, List.getElem?_take, if_pos (by omega)] at hx
        rw [List.getD_eq_getElem?_getD, hx] at h
        exact h
  rw [← hv, dg_val hc, List.length_take, Nat.min_eq_left hk]

theorem take_dg {l : List Nat} (hok : okL l) : l.take (dg (val l)).length = dg (val l) := by
  obtain ⟨k, hk⟩ := dg_append_zeros hok
  conv => lhs; rw [hk]
  rw [List.take_append_of_le_length (by rw [← hk]; exact Nat.le_refl _), ← hk, List.take_length]

theorem trim_own0 {R : Heap}  {ver e : Nat} {l : List Nat} (hok : okL l) (hl : l.length < 1000000000) :
    VCall EE 59 [.osl 0 ver 0 l.length 1] (.cells ver e (limbs l) :: R) fun v H' => H' = .cells ver e (limbs l) :: R ∧ v = .osl 0 ver 0 (dg (val l)).length 1 := by
  refine VCall.of_body true Try.func59 rfl (by decide) rfl ?_
  repeat' ((conv => whnf); first | refine ngo ?_ | refine VB.tt ?_ | refine VB.ff ?_ | refine VNew.keep ?_ | refine dgo ?_ | refine sgo ?_ | fail)
  conv => whnf
  refine VLoop.ix true (fun k : Nat => ⟨[(0, .osl 0 ver 0 k 1)], .cells ver e (limbs l) :: R, []⟩) (fun k => k ≤ l.length ∧ val (l.take k) = val l) id l.length ⟨Nat.le_refl _, by rw [List.take_length]⟩ ⟨⟨rfl, trivial⟩, rfl, rfl⟩ ?_
  rintro k ⟨hk, hv⟩
  repeat' ((conv => whnf); first | refine ngo ?_ | refine VB.tt ?_ | refine VB.ff ?_ | refine VNew.keep ?_ | refine dgo ?_ | refine sgo ?_ | fail)
  conv => whnf
  by_cases h0 : (k : Int) > 0
  · rw [decide_eq_true h0]
    obtain ⟨k, rfl⟩ : ∃ j, k = j + 1 := ⟨k - 1, by omega⟩
    have ek : (((k + 1 : Nat) : Int) - 1).toNat = k := by omega
    repeat' ((conv => whnf); first | refine ngo ?_ | refine VB.tt ?_ | refine VB.ff ?_ | refine VNew.keep ?_ | refine dgo ?_ | refine sgo ?_ | fail)
    conv => whnf
    rw [ek, Nat.mul_one, Nat.zero_add, getInt_limbs]
    refine VB.eq (fun h => ?_) (fun h => ?_)
    · repeat' ((conv => whnf); first | refine ngo ?_ | refine VB.tt ?_ | refine VB.ff ?_ | refine VNew.keep ?_ | refine dgo ?_ | refine sgo ?_ | fail)
      conv => whnf
      refine ⟨k, ⟨by omega, ?_⟩, by simp, ⟨⟨by simp only [lk, ek]; rfl, trivial⟩, rfl, rfl⟩⟩
      rw [val_take_succ (by omega)] at hv
      rw [show l.getD k 0 = 0 by omega] at hv
      omega
    · repeat' ((conv => whnf); first | refine ngo ?_ | refine VB.tt ?_ | refine VB.ff ?_ | refine VNew.keep ?_ | refine dgo ?_ | refine sgo ?_ | fail)
      conv => whnf
      rw [dg_length_of hok hk hv (.inr (by rw [Nat.add_sub_cancel]; omega))]
      exact to_forceH ⟨rfl, rfl⟩
  · rw [decide_eq_false h0]
    have : k = 0 := by omega
    subst this
    repeat' ((conv => whnf); first | refine ngo ?_ | refine VB.tt ?_ | refine VB.ff ?_ | refine VNew.keep ?_ | refine dgo ?_ | refine sgo ?_ | fail)
    conv => whnf
    rw [dg_length_of hok hk hv (.inl rfl)]
    exact to_forceH ⟨rfl, rfl⟩
theorem trim_own1 {R : Heap} {x0 : AObj}  {ver e : Nat} {l : List Nat} (hok : okL l) (hl : l.length < 1000000000) :
    VCall EE 59 [.osl 1 ver 0 l.length 1] (x0 :: .cells ver e (limbs l) :: R) fun v H' => H' = x0 :: .cells ver e (limbs l) :: R ∧ v = .osl 1 ver 0 (dg (val l)).length 1 := by
  refine VCall.of_body true Try.func59 rfl (by decide) rfl ?_
  repeat' ((conv => whnf); first | refine ngo ?_ | refine VB.tt ?_ | refine VB.ff ?_ | refine VNew.keep ?_ | refine dgo ?_ | refine sgo ?_ | fail)
  conv => whnf
  refine VLoop.ix true (fun k : Nat => ⟨[(0, .osl 1 ver 0 k 1)], x0 :: .cells ver e (limbs l) :: R, []⟩) (fun k => k ≤ l.length ∧ val (l.take k) = val l) id l.length ⟨Nat.le_refl _, by rw [List.take_length]⟩ ⟨⟨rfl, trivial⟩, rfl, rfl⟩ ?_
  rintro k ⟨hk, hv⟩
  repeat' ((conv => whnf); first | refine ngo ?_ | refine VB.tt ?_ | refine VB.ff ?_ | refine VNew.keep ?_ | refine dgo ?_ | refine sgo ?_ | fail)
  conv => whnf
  by_cases h0 : (k : Int) > 0
  · rw [decide_eq_true h0]
    obtain ⟨k, rfl⟩ : ∃ j, k = j + 1 := ⟨k - 1, by omega⟩
    have ek : (((k + 1 : Nat) : Int) - 1).toNat = k := by omega
    repeat' ((conv => whnf); first | refine ngo ?_ | refine VB.tt ?_ | refine VB.ff ?_ | refine VNew.keep ?_ | refine dgo ?_ | refine sgo ?_ | fail)
    conv => whnf
    rw [ek, Nat.mul_one, Nat.zero_add, getInt_limbs]
    refine VB.eq (fun h => ?_) (fun h => ?_)
    · repeat' ((conv => whnf); first | refine ngo ?_ | refine VB.tt ?_ | refine VB.ff ?_ | refine VNew.keep ?_ | refine dgo ?_ | refine sgo ?_ | fail)
      conv => whnf
      refine ⟨k, ⟨by omega, ?_⟩, by simp, ⟨⟨by simp only [lk, ek]; rfl, trivial⟩, rfl, rfl⟩⟩
      rw [val_take_succ (by omega)] at hv
      rw [show l.getD k 0 = 0 by omega] at hv
      omega
    · repeat' ((conv => whnf); first | refine ngo ?_ | refine VB.tt ?_ | refine VB.ff ?_ | refine VNew.keep ?_ | refine dgo ?_ | refine sgo ?_ | fail)
      conv => whnf
      rw [dg_length_of hok hk hv (.inr (by rw [Nat.add_sub_cancel]; omega))]
      exact to_forceH (H := x0 :: .cells ver e (limbs l) :: R) (Q := fun H' => H' = x0 :: .cells ver e (limbs l) :: R ∧ (AV.osl 1 ver 0 _ 1) = .osl 1 ver 0 _ 1) ⟨rfl, rfl⟩
  · rw [decide_eq_false h0]
    have : k = 0 := by omega
    subst this
    repeat' ((conv => whnf); first | refine ngo ?_ | refine VB.tt ?_ | refine VB.ff ?_ | refine VNew.keep ?_ | refine dgo ?_ | refine sgo ?_ | fail)
    conv => whnf
    rw [dg_length_of hok hk hv (.inl rfl)]
    exact to_forceH (H := x0 :: .cells ver e (limbs l) :: R) (Q := fun H' => H' = x0 :: .cells ver e (limbs l) :: R ∧ (AV.osl 1 ver 0 _ 1) = .osl 1 ver 0 _ 1) ⟨rfl, rfl⟩
theorem trim_own2 {R : Heap} {x0 x1 : AObj}  {ver e : Nat} {l : List Nat} (hok : okL l) (hl : l.length < 1000000000) :
    VCall EE 59 [.osl 2 ver 0 l.length 1] (x0 :: x1 :: .cells ver e (limbs l) :: R) fun v H' => H' = x0 :: x1 :: .cells ver e (limbs l) :: R ∧ v = .osl 2 ver 0 (dg (val l)).length 1 := by
  refine VCall.of_body true Try.func59 rfl (by decide) rfl ?_
  repeat' ((conv => whnf); first | refine ngo ?_ | refine VB.tt ?_ | refine VB.ff ?_ | refine VNew.keep ?_ | refine dgo ?_ | refine sgo ?_ | fail)
  conv => whnf
  refine VLoop.ix true (fun k : Nat => ⟨[(0, .osl 2 ver 0 k 1)], x0 :: x1 :: .cells ver e (limbs l) :: R, []⟩) (fun k => k ≤ l.length ∧ val (l.take k) = val l) id l.length ⟨Nat.le_refl _, by rw [List.take_length]⟩ ⟨⟨rfl, trivial⟩, rfl, rfl⟩ ?_
  rintro k ⟨hk, hv⟩
  repeat' ((conv => whnf); first | refine ngo ?_ | refine VB.tt ?_ | refine VB.ff ?_ | refine VNew.keep ?_ | refine dgo ?_ | refine sgo ?_ | fail)
  conv => whnf
  by_cases h0 : (k : Int) > 0
  · rw [decide_eq_true h0]
    obtain ⟨k, rfl⟩ : ∃ j, k = j + 1 := ⟨k - 1, by omega⟩
    have ek : (((k + 1 : Nat) : Int) - 1).toNat = k := by omega
    repeat' ((conv => whnf); first | refine ngo ?_ | refine VB.tt ?_ | refine VB.ff ?_ | refine VNew.keep ?_ | refine dgo ?_ | refine sgo ?_ | fail)
    conv => whnf
    rw [ek, Nat.mul_one, Nat.zero_add, getInt_limbs]
    refine VB.eq (fun h => ?_) (fun h => ?_)
    · repeat' ((conv => whnf); first | refine ngo ?_ | refine VB.tt ?_ | refine VB.ff ?_ | refine VNew.keep ?_ | refine dgo ?_ | refine sgo ?_ | fail)
      conv => whnf
      refine ⟨k, ⟨by omega, ?_⟩, by simp, ⟨⟨by simp only [lk, ek]; rfl, trivial⟩, rfl, rfl⟩⟩
      rw [val_take_succ (by omega)] at hv
      rw [show l.getD k 0 = 0 by omega] at hv
      omega
    · repeat' ((conv => whnf); first | refine ngo ?_ | refine VB.tt ?_ | refine VB.ff ?_ | refine VNew.keep ?_ | refine dgo ?_ | refine sgo ?_ | fail)
      conv => whnf
      rw [dg_length_of hok hk hv (.inr (by rw [Nat.add_sub_cancel]; omega))]
      exact to_forceH (H := x0 :: x1 :: .cells ver e (limbs l) :: R) (Q := fun H' => H' = x0 :: x1 :: .cells ver e (limbs l) :: R ∧ (AV.osl 2 ver 0 _ 1) = .osl 2 ver 0 _ 1) ⟨rfl, rfl⟩
  · rw [decide_eq_false h0]
    have : k = 0 := by omega
    subst this
    repeat' ((conv => whnf); first | refine ngo ?_ | refine VB.tt ?_ | refine VB.ff ?_ | refine VNew.keep ?_ | refine dgo ?_ | refine sgo ?_ | fail)
    conv => whnf
    rw [dg_length_of hok hk hv (.inl rfl)]
    exact to_forceH (H := x0 :: x1 :: .cells ver e (limbs l) :: R) (Q := fun H' => H' = x0 :: x1 :: .cells ver e (limbs l) :: R ∧ (AV.osl 2 ver 0 _ 1) = .osl 2 ver 0 _ 1) ⟨rfl, rfl⟩
end Go.Proofs.Ytcdnonggajoghaa
