/- Contracts: the reference's lists of limbs. -/
import Derived.Test.YtcdnonggajoghaaC7
import Derived.Test.YtcdnonggajoghaaV8
namespace Go.Proofs.Ytcdnonggajoghaa
open Go Go.RowKit
set_option linter.unusedVariables false
set_option linter.unusedSimpArgs false
set_option maxRecDepth 100000

theorem rtrim_own {H : Heap} {b ver e k0 : Nat} {l : List Nat} (hb : H[b]? = some (.cells ver e (limbs l))) (hok : okL l) (hk0 : k0 ≤ l.length) (hl : k0 < 1000000000) :
    VCall EE 61 [.osl b ver 0 k0 1] H fun v H' => H' = H ∧ v = .osl b ver 0 (dg (val (l.take k0))).length 1 := by
  have hok' := hok.take k0
  have hle : (l.take k0).length = k0 := by rw [List.length_take]; omega
  refine VCall.of_body true Try.func61 rfl (by decide) rfl ?_
  repeat' ((conv => whnf); first | refine ngo ?_ | refine VB.tt ?_ | refine VB.ff ?_ | refine VNew.keep ?_ | refine dgo ?_ | refine sgo ?_ | fail)
  conv => whnf
  refine VLoop.ix true (fun k : Nat => ⟨[(0, .osl b ver 0 k 1)], H, []⟩) (fun k => k ≤ k0 ∧ val ((l.take k0).take k) = val (l.take k0)) id k0 ⟨Nat.le_refl _, by rw [List.take_of_length_le (by omega)]⟩ ⟨⟨rfl, trivial⟩, rfl, rfl⟩ ?_
  rintro k ⟨hk, hv⟩
  repeat' ((conv => whnf); first | refine ngo ?_ | refine VB.tt ?_ | refine VB.ff ?_ | refine VNew.keep ?_ | refine dgo ?_ | refine sgo ?_ | fail)
  conv => whnf
  by_cases h0 : (k : Int) > 0
  · rw [decide_eq_true h0]
    obtain ⟨k, rfl⟩ : ∃ j, k = j + 1 := ⟨k - 1, by omega⟩
    have ek : (((k + 1 : Nat) : Int) - 1).toNat = k := by omega
    have hgd : (l.take k0).getD k 0 = l.getD k 0 := by simp [List.getD_eq_getElem?_getD, List.getElem?_take, show k < k0 by omega]
    repeat' ((conv => whnf); first | refine ngo ?_ | refine VB.tt ?_ | refine VB.ff ?_ | refine VNew.keep ?_ | refine dgo ?_ | refine sgo ?_ | fail)
    conv => whnf
    rw [hb]
    repeat' ((conv => whnf); first | refine ngo ?_ | refine VB.tt ?_ | refine VB.ff ?_ | refine VNew.keep ?_ | refine dgo ?_ | refine sgo ?_ | fail)
    conv => whnf
    rw [ek, Nat.mul_one, Nat.zero_add, getInt_limbs]
    refine VB.eq (fun h => ?_) (fun h => ?_)
    · repeat' ((conv => whnf); first | refine ngo ?_ | refine VB.tt ?_ | refine VB.ff ?_ | refine VNew.keep ?_ | refine dgo ?_ | refine sgo ?_ | fail)
      conv => whnf
      refine ⟨k, ⟨by omega, ?_⟩, by simp, ⟨⟨by simp only [lk, ek]; rfl, trivial⟩, rfl, rfl⟩⟩
      rw [val_take_succ (by omega), hgd] at hv
      rw [show l.getD k 0 = 0 by omega] at hv
      omega
    · repeat' ((conv => whnf); first | refine ngo ?_ | refine VB.tt ?_ | refine VB.ff ?_ | refine VNew.keep ?_ | refine dgo ?_ | refine sgo ?_ | fail)
      conv => whnf
      rw [dg_length_of hok' (by omega) hv (.inr (by rw [Nat.add_sub_cancel, hgd]; omega))]
      exact to_forceH ⟨rfl, rfl⟩
  · rw [decide_eq_false h0]
    have : k = 0 := by omega
    subst this
    repeat' ((conv => whnf); first | refine ngo ?_ | refine VB.tt ?_ | refine VB.ff ?_ | refine VNew.keep ?_ | refine dgo ?_ | refine sgo ?_ | fail)
    conv => whnf
    rw [dg_length_of hok' (by omega) hv (.inl rfl)]
    exact to_forceH ⟨rfl, rfl⟩

theorem rtrim_c {l : List Nat} (hok : okL l) (hl : l.length < 1000000000) : VCall EE 61 [natL l] [] fun v H => v = natv (val l) := by
  refine VCall.of_body true Try.func61 rfl (by decide) rfl ?_
  repeat' ((conv => whnf); first | refine ngo ?_ | refine VB.tt ?_ | refine VB.ff ?_ | refine VNew.keep ?_ | refine dgo ?_ | refine sgo ?_ | fail)
  conv => whnf
  refine VLoop.ix true (fun k : Nat => ⟨[(0, .dsl (limbs (l.take k)) k)], [], []⟩) (fun k => k ≤ l.length ∧ val (l.take k) = val l) id l.length ⟨Nat.le_refl _, by rw [List.take_length]⟩ ⟨⟨by simp [lk, mkFr, natL], trivial⟩, rfl, rfl⟩ ?_
  rintro k ⟨hk, hv⟩
  have ht : ∀ k, k ≤ l.length → val (l.take k) = val l → (k = 0 ∨ l.getD (k - 1) 0 ≠ 0) → AV.dsl (limbs (l.take k)) k = natv (val l) := by
    intro k h1 h2 h3
    have h4 := dg_length_of hok h1 h2 h3
    have h5 := take_dg hok
    rw [h4] at h5
    rw [natv, ← h5, natL, List.length_take, Nat.min_eq_left h1]
  repeat' ((conv => whnf); first | refine ngo ?_ | refine VB.tt ?_ | refine VB.ff ?_ | refine VNew.keep ?_ | refine dgo ?_ | refine sgo ?_ | fail)
  conv => whnf
  by_cases h0 : (k : Int) > 0
  · rw [decide_eq_true h0]
    obtain ⟨k, rfl⟩ : ∃ j, k = j + 1 := ⟨k - 1, by omega⟩
    have ek : (((k + 1 : Nat) : Int) - 1).toNat = k := by omega
    have hlk : (l.take (k + 1)).length = k + 1 := by rw [List.length_take]; omega
    have hgd : (l.take (k + 1)).getD k 0 = l.getD k 0 := by simp [List.getD_eq_getElem?_getD, List.getElem?_take]
    repeat' ((conv => whnf); first | refine ngo ?_ | refine VB.tt ?_ | refine VB.ff ?_ | refine VNew.keep ?_ | refine dgo ?_ | refine sgo ?_ | fail)
    conv => whnf
    rw [ek, Nat.mul_one, getInt_limbs, hgd]
    refine VB.eq (fun h => ?_) (fun h => ?_)
    · repeat' ((conv => whnf); first | refine ngo ?_ | refine VB.tt ?_ | refine VB.ff ?_ | refine VNew.keep ?_ | refine dgo ?_ | refine sgo ?_ | fail)
      conv => whnf
      refine ⟨k, ⟨by omega, ?_⟩, by simp, ⟨⟨?_, trivial⟩, rfl, rfl⟩⟩
      · rw [val_take_succ (by omega)] at hv
        rw [show l.getD k 0 = 0 by omega] at hv
        omega
      · simp only [lk, ek, Nat.zero_mul, List.drop_zero, Nat.sub_zero, Nat.mul_one, limbs_take, List.take_take, if_pos]
        rw [Nat.min_eq_left (by omega)]
    · repeat' ((conv => whnf); first | refine ngo ?_ | refine VB.tt ?_ | refine VB.ff ?_ | refine VNew.keep ?_ | refine dgo ?_ | refine sgo ?_ | fail)
      conv => whnf
      exact (ht (k + 1) hk hv (.inr (by rw [Nat.add_sub_cancel]; omega)))
  · rw [decide_eq_false h0]
    have : k = 0 := by omega
    subst this
    repeat' ((conv => whnf); first | refine ngo ?_ | refine VB.tt ?_ | refine VB.ff ?_ | refine VNew.keep ?_ | refine dgo ?_ | refine sgo ?_ | fail)
    conv => whnf
    exact (ht 0 hk hv (.inl rfl))

theorem rorder_c {a b : List Nat} (ha : canon a) (hb : canon b) (la : a.length < 1000000000) (lb : b.length < 1000000000) : VCall EE 50 [natL a, natL b] [] fun v H => v = .int .i64 (cmpN (val a) (val b)) := by
  refine VCall.of_body true Try.func50 rfl (by decide) rfl ?_
  repeat' ((conv => whnf); first | refine ngo ?_ | refine VB.tt ?_ | refine VB.ff ?_ | refine VNew.keep ?_ | refine dgo ?_ | refine sgo ?_ | fail)
  conv => whnf
  refine VB.ne (fun h => ?_) (fun h => ?_)
  · repeat' ((conv => whnf); first | refine ngo ?_ | refine VB.tt ?_ | refine VB.ff ?_ | refine VNew.keep ?_ | refine dgo ?_ | refine sgo ?_ | fail)
    conv => whnf
    refine VB.dec (fun h => ?_) (fun h => ?_)
    · repeat' ((conv => whnf); first | refine ngo ?_ | refine VB.tt ?_ | refine VB.ff ?_ | refine VNew.keep ?_ | refine dgo ?_ | refine sgo ?_ | fail)
      conv => whnf
      rw [cmpN_lt (canon_lt ha.1 hb (by omega))]
    · repeat' ((conv => whnf); first | refine ngo ?_ | refine VB.tt ?_ | refine VB.ff ?_ | refine VNew.keep ?_ | refine dgo ?_ | refine sgo ?_ | fail)
      conv => whnf
      rw [cmpN_gt (canon_lt hb.1 ha (by omega))]
  · repeat' ((conv => whnf); first | refine ngo ?_ | refine VB.tt ?_ | refine VB.ff ?_ | refine VNew.keep ?_ | refine dgo ?_ | refine sgo ?_ | fail)
    conv => whnf
    refine VLoop.ix true (fun i : Nat => ⟨[(0, natL a), (1, natL b), (5, .int .i64 (i - 1))], [], []⟩) (fun i => i ≤ a.length ∧ a.drop i = b.drop i) id a.length ⟨Nat.le_refl _, by rw [List.drop_length, List.drop_eq_nil_of_le (by omega)]⟩ ⟨⟨rfl, rfl, rfl, trivial⟩, rfl, rfl⟩ ?_
    rintro i ⟨hi, hd⟩
    repeat' ((conv => whnf); first | refine ngo ?_ | refine VB.tt ?_ | refine VB.ff ?_ | refine VNew.keep ?_ | refine dgo ?_ | refine sgo ?_ | fail)
    conv => whnf
    refine VB.dec (fun h => ?_) (fun h => ?_)
    · obtain ⟨i, rfl⟩ : ∃ k, i = k + 1 := ⟨i - 1, by omega⟩
      have ei : (((i + 1 : Nat) : Int) - 1).toNat = i := by omega
      repeat' ((conv => whnf); first | refine ngo ?_ | refine VB.tt ?_ | refine VB.ff ?_ | refine VNew.keep ?_ | refine dgo ?_ | refine sgo ?_ | fail)
      conv => whnf
      rw [ei, Nat.mul_one, getInt_limbs, getInt_limbs]
      refine VB.dec (fun h => ?_) (fun h => ?_)
      · repeat' ((conv => whnf); first | refine ngo ?_ | refine VB.tt ?_ | refine VB.ff ?_ | refine VNew.keep ?_ | refine dgo ?_ | refine sgo ?_ | fail)
        conv => whnf
        rw [cmpN_lt (val_lt_of ha.1 hb.1 (i := i) (by omega) (by omega) hd (by omega))]
      · repeat' ((conv => whnf); first | refine ngo ?_ | refine VB.tt ?_ | refine VB.ff ?_ | refine VNew.keep ?_ | refine dgo ?_ | refine sgo ?_ | fail)
        conv => whnf
        rw [ei, Nat.mul_one, getInt_limbs, getInt_limbs]
        refine VB.dec (fun h => ?_) (fun h => ?_)
        · repeat' ((conv => whnf); first | refine ngo ?_ | refine VB.tt ?_ | refine VB.ff ?_ | refine VNew.keep ?_ | refine dgo ?_ | refine sgo ?_ | fail)
          conv => whnf
          rw [cmpN_gt (val_lt_of hb.1 ha.1 (i := i) (by omega) (by omega) hd.symm (by omega))]
        · repeat' ((conv => whnf); first | refine ngo ?_ | refine VB.tt ?_ | refine VB.ff ?_ | refine VNew.keep ?_ | refine dgo ?_ | refine sgo ?_ | fail)
          conv => whnf
          refine ⟨i, ⟨by omega, ?_⟩, by simp, ⟨⟨rfl, rfl, by simp [lk], trivial⟩, rfl, rfl⟩⟩
          rw [List.drop_eq_getElem_cons (by omega), List.drop_eq_getElem_cons (l := b) (by omega), hd]
          have h3 : a.getD i 0 = b.getD i 0 := by omega
          simp [List.getD_eq_getElem?_getD, show i < a.length by omega, show i < b.length by omega] at h3
          rw [h3]
    · have : i = 0 := by omega
      subst this
      repeat' ((conv => whnf); first | refine ngo ?_ | refine VB.tt ?_ | refine VB.ff ?_ | refine VNew.keep ?_ | refine dgo ?_ | refine sgo ?_ | fail)
      conv => whnf
      rw [cmpN_eq (by simpa using congrArg val hd)]

theorem rcheck_c (l : List Nat) (ll : l.length < 1000000000000000000) : VCall EE 54 [natL l] [] fun v H => v = .int .i64 (chk l) := by
  refine VCall.of_body true Try.func54 rfl (by decide) rfl ?_
  repeat' ((conv => whnf); first | refine ngo ?_ | refine VB.tt ?_ | refine VB.ff ?_ | refine VNew.keep ?_ | refine dgo ?_ | refine sgo ?_ | fail)
  conv => whnf
  refine VB.dec (fun h => ?_) (fun h => ?_)
  · repeat' ((conv => whnf); first | refine ngo ?_ | refine VB.tt ?_ | refine VB.ff ?_ | refine VNew.keep ?_ | refine dgo ?_ | refine sgo ?_ | fail)
    conv => whnf
    rw [chk, if_pos (by omega)]
  · have hc : chk l = if canonB l then 0 else 3 := by rw [chk, if_neg (by omega)]
    repeat' ((conv => whnf); first | refine ngo ?_ | refine VB.tt ?_ | refine VB.ff ?_ | refine VNew.keep ?_ | refine dgo ?_ | refine sgo ?_ | fail)
    conv => whnf
    refine VLoop.ix true (fun i : Nat => ⟨[(0, natL l), (3, .int .i64 i)], [], []⟩) (fun i => i ≤ l.length ∧ okL (l.take i)) (fun i => l.length - i) 0 ⟨Nat.zero_le _, by simp [okL]⟩ ⟨⟨rfl, rfl, trivial⟩, rfl, rfl⟩ ?_
    rintro i ⟨hi, hd⟩
    have hBB : BB = 1000000000 := rfl
    repeat' ((conv => whnf); first | refine ngo ?_ | refine VB.tt ?_ | refine VB.ff ?_ | refine VNew.keep ?_ | refine dgo ?_ | refine sgo ?_ | fail)
    conv => whnf
    refine VB.dec (fun h => ?_) (fun h => ?_)
    · have hx : l.getD i 0 ∈ l := by
        simp [List.getD_eq_getElem?_getD, show i < l.length by omega]
      have hx2 : l[i]'(by omega) = l.getD i 0 := by simp [List.getD_eq_getElem?_getD, show i < l.length by omega]
      repeat' ((conv => whnf); first | refine ngo ?_ | refine VB.tt ?_ | refine VB.ff ?_ | refine VNew.keep ?_ | refine dgo ?_ | refine sgo ?_ | fail)
      conv => whnf
      rw [Int.toNat_natCast, Nat.mul_one, getInt_limbs]
      refine VB.dec (fun h1 => ?_) (fun h1 => ?_)
      · repeat' ((conv => whnf); first | refine ngo ?_ | refine VB.tt ?_ | refine VB.ff ?_ | refine VNew.keep ?_ | refine dgo ?_ | refine sgo ?_ | fail)
        conv => whnf
        rw [hc, canonB_false (fun hcc => absurd (hcc.1 _ hx) (by omega))]
        rfl
      · repeat' ((conv => whnf); first | refine ngo ?_ | refine VB.tt ?_ | refine VB.ff ?_ | refine VNew.keep ?_ | refine dgo ?_ | refine sgo ?_ | fail)
        conv => whnf
        refine ⟨i + 1, ⟨by omega, ?_⟩, by omega, ⟨⟨rfl, by simp [lk], trivial⟩, rfl, rfl⟩⟩
        rw [List.take_succ_eq_append_getElem (by omega)]
        refine okL_append.2 ⟨hd, fun x hx => ?_⟩
        rw [List.mem_singleton.1 hx, hx2]
        omega
    · have : i = l.length := by omega
      subst this
      rw [List.take_length] at hd
      have e : l.all (fun x => decide (x < BB)) = true := List.all_eq_true.2 fun x hx => decide_eq_true (hd x hx)
      unfold canonB at hc
      rw [e] at hc
      repeat' ((conv => whnf); first | refine ngo ?_ | refine VB.tt ?_ | refine VB.ff ?_ | refine VNew.keep ?_ | refine dgo ?_ | refine sgo ?_ | fail)
      conv => whnf
      by_cases h0 : (l.length : Int) > 0
      · rw [decide_eq_true h0]
        have el : ((l.length : Int) - 1).toNat = l.length - 1 := by omega
        have hl : l.getLast? = some (l.getD (l.length - 1) 0) := by
          rw [List.getLast?_eq_getElem?, List.getD_eq_getElem?_getD, List.getElem?_eq_getElem (by omega)]
          rfl
        rw [hl] at hc
        repeat' ((conv => whnf); first | refine ngo ?_ | refine VB.tt ?_ | refine VB.ff ?_ | refine VNew.keep ?_ | refine dgo ?_ | refine sgo ?_ | fail)
        conv => whnf
        rw [el, Nat.mul_one, getInt_limbs]
        generalize l.getD (l.length - 1) 0 = x at *
        refine VB.eq (fun h1 => ?_) (fun h1 => ?_)
        · have h1 : x = 0 := by omega
          subst h1
          repeat' ((conv => whnf); first | refine ngo ?_ | refine VB.tt ?_ | refine VB.ff ?_ | refine VNew.keep ?_ | refine dgo ?_ | refine sgo ?_ | fail)
          conv => whnf
          rw [hc]
          rfl
        · have h1 : x ≠ 0 := by omega
          repeat' ((conv => whnf); first | refine ngo ?_ | refine VB.tt ?_ | refine VB.ff ?_ | refine VNew.keep ?_ | refine dgo ?_ | refine sgo ?_ | fail)
          conv => whnf
          rw [hc]
          simp [h1]
      · rw [decide_eq_false h0]
        have : l = [] := List.length_eq_zero_iff.1 (by omega)
        subst this
        repeat' ((conv => whnf); first | refine ngo ?_ | refine VB.tt ?_ | refine VB.ff ?_ | refine VNew.keep ?_ | refine dgo ?_ | refine sgo ?_ | fail)
        conv => whnf
        rfl

theorem rboth_c (a b : List Nat) (la : a.length < 1000000000000000000) (lb : b.length < 1000000000000000000) : VCall EE 33 [natL a, natL b] [] fun v H => v = .int .i64 (both2 a b) := by
  refine VCall.of_body true Try.func33 rfl (by decide) rfl ?_
  repeat' ((conv => whnf); first | refine ngo ?_ | refine VB.tt ?_ | refine VB.ff ?_ | refine VNew.keep ?_ | refine dgo ?_ | refine sgo ?_ | fail)
  conv => whnf
  refine VCall.s (rcheck_c a la) ?_
  repeat' ((conv => whnf); first | refine ngo ?_ | refine VB.tt ?_ | refine VB.ff ?_ | refine VNew.keep ?_ | refine dgo ?_ | refine sgo ?_ | fail)
  conv => whnf
  refine VB.ne (fun h => ?_) (fun h => ?_)
  · repeat' ((conv => whnf); first | refine ngo ?_ | refine VB.tt ?_ | refine VB.ff ?_ | refine VNew.keep ?_ | refine dgo ?_ | refine sgo ?_ | fail)
    conv => whnf
    rw [both2, if_neg h]
  · repeat' ((conv => whnf); first | refine ngo ?_ | refine VB.tt ?_ | refine VB.ff ?_ | refine VNew.keep ?_ | refine dgo ?_ | refine sgo ?_ | fail)
    conv => whnf
    refine VCall.s (rcheck_c b lb) ?_
    repeat' ((conv => whnf); first | refine ngo ?_ | refine VB.tt ?_ | refine VB.ff ?_ | refine VNew.keep ?_ | refine dgo ?_ | refine sgo ?_ | fail)
    conv => whnf
    rw [both2, if_pos h]

theorem dg_single {n : Nat} (h : n < BB) : val [n] = n := by simp [val]

theorem rsmall_c {n : Nat} (hn : n < BB) : VCall EE 60 [.int .u32 n] [] fun v H => v = natv n := by
  refine VCall.of_body true Try.func60 rfl (by decide) rfl ?_
  repeat' ((conv => whnf); first | refine ngo ?_ | refine VB.tt ?_ | refine VB.ff ?_ | refine dgo ?_ | refine sgo ?_ | fail)
  conv => whnf
  refine VNew.dat (cs' := limbs [n]) rfl rfl ?_
  repeat' ((conv => whnf); first | refine ngo ?_ | refine VB.tt ?_ | refine VB.ff ?_ | refine VNew.keep ?_ | refine dgo ?_ | refine sgo ?_ | fail)
  conv => whnf
  have h := rtrim_c (l := [n]) (by intro x hx; rw [List.mem_singleton.1 hx]; exact hn) (by simp)
  rw [dg_single hn] at h
  show VCall EE _ [natL [n]] _ _
  refine VCall.isoS h (by repeat' (first | exact trivial | exact low_natL 0 _ | exact low_limbs 0 _ | refine And.intro ?_ ?_ | fail)) (by repeat' (first | exact trivial | exact low_natL 0 _ | exact low_limbs 0 _ | refine And.intro ?_ ?_ | fail)) ?_
  repeat' ((conv => whnf); first | refine ngo ?_ | refine VB.tt ?_ | refine VB.ff ?_ | refine VNew.keep ?_ | refine dgo ?_ | refine sgo ?_ | fail)
  conv => whnf
  rfl

theorem copyD {l : List Nat} : List.take (l.length * 1) (List.drop 0 (List.take (0 * 1) ([] : List AV) ++ limbs l)) = limbs l := by
  rw [Nat.mul_one]; exact List.take_of_length_le (by simp [limbs])

theorem rfits_c {n : Nat} (hn : (dg n).length < 1000000000000) : VCall EE 38 [natv n] [] fun v H => Fz H 0 [] v (.tup [natv (if 1024 < (dg n).length then 0 else n), .int .i64 (if 1024 < (dg n).length then 5 else 0)]) := by
  refine VCall.of_body true Try.func38 rfl (by decide) rfl ?_
  repeat' ((conv => whnf); first | refine ngo ?_ | refine VB.tt ?_ | refine VB.ff ?_ | refine VNew.keep ?_ | refine dgo ?_ | refine sgo ?_ | fail)
  conv => whnf
  refine VB.dec (fun h => ?_) (fun h => ?_)
  · repeat' ((conv => whnf); first | refine ngo ?_ | refine VB.tt ?_ | refine VB.ff ?_ | refine VNew.keep ?_ | refine dgo ?_ | refine sgo ?_ | fail)
    conv => whnf
    rw [if_pos (by omega), if_pos (by omega)]
    repeat' (first | exact fz_nil0 | exact Fz.nsl | exact Fz.same rfl (by repeat' (first | exact trivial | exact low_natL 0 _ | exact low_limbs 0 _ | refine And.intro ?_ ?_ | fail)) | refine Fz.tup ?_ | refine FzL.cons ?_ ?_ | exact FzL.nil | fail)
  · repeat' ((conv => whnf); first | refine ngo ?_ | refine VB.tt ?_ | refine VB.ff ?_ | refine VNew.keep ?_ | refine dgo ?_ | refine sgo ?_ | fail)
    conv => whnf
    rw [if_neg (by omega), if_neg (by omega)]
    refine .tup (.cons ?_ (.cons (.same rfl trivial) .nil))
    exact .nat (Nat.zero_le _) (by simp) rfl (by rw [Nat.mul_one, Nat.zero_add]; exact List.take_of_length_le (by simp [limbs])) (by simp)
end Go.Proofs.Ytcdnonggajoghaa
