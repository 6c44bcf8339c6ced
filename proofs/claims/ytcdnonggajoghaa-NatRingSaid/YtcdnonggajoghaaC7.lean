/- Contracts: lists alike, checks, common divisors. -/
import Derived.Test.YtcdnonggajoghaaC6
namespace Go.Proofs.Ytcdnonggajoghaa
open Go Go.RowKit
set_option linter.unusedVariables false
set_option linter.unusedSimpArgs false
set_option maxRecDepth 100000

theorem natv_zero : natv 0 = .dsl [] 0 := by rw [natv, dg_zero]; rfl
theorem fz_nil0 {H : Heap} : Fz H 0 [] .nsl (natv 0) := by rw [natv_zero]; exact .nsl

def canonB (l : List Nat) : Bool := l.all (fun x => decide (x < BB)) && (l.getLast? != some 0)
theorem canonB_iff {l : List Nat} : canonB l = true ↔ canon l := by
  simp only [canonB, canon, okL, Bool.and_eq_true, List.all_eq_true, decide_eq_true_eq, bne_iff_ne, ne_eq]
  constructor
  · rintro ⟨h1, h2⟩
    exact ⟨h1, fun x hx h0 => h2 (by rw [hx, h0])⟩
  · rintro ⟨h1, h2⟩
    exact ⟨h1, fun h => h2 0 h rfl⟩
theorem canonB_false {l : List Nat} (h : ¬ canon l) : canonB l = false := by
  cases e : canonB l with
  | false => rfl
  | true => exact absurd (canonB_iff.1 e) h
def chk (l : List Nat) : Int := if 1024 < l.length then 4 else if canonB l then 0 else 3
theorem chk_zero {l : List Nat} (h : chk l = 0) : canon l ∧ l.length ≤ 1024 := by
  unfold chk at h
  split at h
  · cases h
  · split at h
    · rename_i h1 h2; exact ⟨canonB_iff.1 h2, by omega⟩
    · cases h
theorem chk_dg {n : Nat} (h : (dg n).length ≤ 1024) : chk (dg n) = 0 := by
  unfold chk
  rw [if_neg (by omega), if_pos (canonB_iff.2 (canon_dg n))]

theorem alike_c {a b : List Nat} (la : a.length < 1000000000) (lb : b.length < 1000000000) : VCall EE 11 [natL a, natL b] [] fun v H => v = .bool (decide (a = b)) := by
  refine VCall.of_body true Try.func11 rfl (by decide) rfl ?_
  repeat' ((conv => whnf); first | refine ngo ?_ | refine VB.tt ?_ | refine VB.ff ?_ | refine VNew.keep ?_ | refine dgo ?_ | refine sgo ?_ | fail)
  conv => whnf
  refine VB.ne (fun h => ?_) (fun h => ?_)
  · repeat' ((conv => whnf); first | refine ngo ?_ | refine VB.tt ?_ | refine VB.ff ?_ | refine VNew.keep ?_ | refine dgo ?_ | refine sgo ?_ | fail)
    conv => whnf
    rw [decide_eq_false (by rintro rfl; exact h rfl)]
  · repeat' ((conv => whnf); first | refine ngo ?_ | refine VB.tt ?_ | refine VB.ff ?_ | refine VNew.keep ?_ | refine dgo ?_ | refine sgo ?_ | fail)
    conv => whnf
    refine VLoop.ix true (fun i : Nat => ⟨[(0, natL a), (1, natL b), (5, .int .i64 i)], [], []⟩) (fun i => i ≤ a.length ∧ a.take i = b.take i) (fun i => a.length - i) 0 ⟨Nat.zero_le _, rfl⟩ ⟨⟨rfl, rfl, rfl, trivial⟩, rfl, rfl⟩ ?_
    rintro i ⟨hi, hd⟩
    repeat' ((conv => whnf); first | refine ngo ?_ | refine VB.tt ?_ | refine VB.ff ?_ | refine VNew.keep ?_ | refine dgo ?_ | refine sgo ?_ | fail)
    conv => whnf
    refine VB.dec (fun h => ?_) (fun h => ?_)
    · repeat' ((conv => whnf); first | refine ngo ?_ | refine VB.tt ?_ | refine VB.ff ?_ | refine VNew.keep ?_ | refine dgo ?_ | refine sgo ?_ | fail)
      conv => whnf
      rw [Int.toNat_natCast, Nat.mul_one, getInt_limbs, getInt_limbs]
      refine VB.ne (fun h1 => ?_) (fun h1 => ?_)
      · repeat' ((conv => whnf); first | refine ngo ?_ | refine VB.tt ?_ | refine VB.ff ?_ | refine VNew.keep ?_ | refine dgo ?_ | refine sgo ?_ | fail)
        conv => whnf
        rw [decide_eq_false (by rintro rfl; exact h1 rfl)]
      · repeat' ((conv => whnf); first | refine ngo ?_ | refine VB.tt ?_ | refine VB.ff ?_ | refine VNew.keep ?_ | refine dgo ?_ | refine sgo ?_ | fail)
        conv => whnf
        refine ⟨i + 1, ⟨by omega, ?_⟩, by omega, ⟨⟨rfl, rfl, by simp [lk], trivial⟩, rfl, rfl⟩⟩
        have h2 : a.getD i 0 = b.getD i 0 := Int.ofNat.inj h1
        simp [List.getD_eq_getElem?_getD, show i < a.length by omega, show i < b.length by omega] at h2
        rw [List.take_succ_eq_append_getElem (by omega), List.take_succ_eq_append_getElem (by omega), hd, h2]
    · have : i = a.length := by omega
      subst this
      repeat' ((conv => whnf); first | refine ngo ?_ | refine VB.tt ?_ | refine VB.ff ?_ | refine VNew.keep ?_ | refine dgo ?_ | refine sgo ?_ | fail)
      conv => whnf
      rw [List.take_length, List.take_of_length_le (by omega)] at hd
      rw [decide_eq_true hd]

theorem check1_c (x : Nat) : VCall EE 64 [.int .u32 x] [] fun v H => v = .bool (decide (BB ≤ x)) := by
  refine VCall.of_body true Try.func64 rfl (by decide) rfl ?_
  repeat' ((conv => whnf); first | refine ngo ?_ | refine VB.tt ?_ | refine VB.ff ?_ | refine VNew.keep ?_ | refine dgo ?_ | refine sgo ?_ | fail)
  conv => whnf
  have : decide ((x : Int) ≥ 1000000000) = decide (BB ≤ x) := by
    have hBB : BB = 1000000000 := rfl
    by_cases h : BB ≤ x
    · rw [decide_eq_true h, decide_eq_true (by omega)]
    · rw [decide_eq_false h, decide_eq_false (by omega)]
  rw [this]

theorem indexf_c {l : List Nat} (ll : l.length < 1000000000) : VCall EE 66 [natL l, .fn (.func 64) [] []] [] fun v H => ∃ r : Int, v = .int .i64 r ∧ (r ≥ 0 ↔ ¬ okL l) := by
  refine VCall.of_body true Try.func66 rfl (by decide) rfl ?_
  repeat' ((conv => whnf); first | refine ngo ?_ | refine VB.tt ?_ | refine VB.ff ?_ | refine VNew.keep ?_ | refine dgo ?_ | refine sgo ?_ | fail)
  conv => whnf
  refine VLoop.ix true (fun i : Nat => ⟨[(0, natL l), (1, .fn (.func 64) [] []), (7, .int .i64 l.length), (8, .int .i64 i)], [], []⟩) (fun i => i ≤ l.length ∧ okL (l.take i)) (fun i => l.length - i) 0 ⟨Nat.zero_le _, by simp [okL]⟩ ⟨⟨rfl, rfl, rfl, rfl, trivial⟩, rfl, rfl⟩ ?_
  rintro i ⟨hi, hd⟩
  repeat' ((conv => whnf); first | refine ngo ?_ | refine VB.tt ?_ | refine VB.ff ?_ | refine VNew.keep ?_ | refine dgo ?_ | refine sgo ?_ | fail)
  conv => whnf
  refine VB.dec (fun h => ?_) (fun h => ?_)
  · repeat' ((conv => whnf); first | refine ngo ?_ | refine VB.tt ?_ | refine VB.ff ?_ | refine VNew.keep ?_ | refine dgo ?_ | refine sgo ?_ | fail)
    conv => whnf
    rw [Int.toNat_natCast, Nat.mul_one, getInt_limbs]
    refine VCall.s (check1_c _) ?_
    repeat' ((conv => whnf); first | refine ngo ?_ | refine VB.tt ?_ | refine VB.ff ?_ | refine VNew.keep ?_ | refine dgo ?_ | refine sgo ?_ | fail)
    conv => whnf
    have hx : l.getD i 0 ∈ l := by
      simp [List.getD_eq_getElem?_getD, show i < l.length by omega]
    refine VB.dec (fun h1 => ?_) (fun h1 => ?_)
    · repeat' ((conv => whnf); first | refine ngo ?_ | refine VB.tt ?_ | refine VB.ff ?_ | refine VNew.keep ?_ | refine dgo ?_ | refine sgo ?_ | fail)
      conv => whnf
      exact ⟨i, rfl, fun _ hok => absurd (hok _ hx) (by omega), fun _ => by omega⟩
    · repeat' ((conv => whnf); first | refine ngo ?_ | refine VB.tt ?_ | refine VB.ff ?_ | refine VNew.keep ?_ | refine dgo ?_ | refine sgo ?_ | fail)
      conv => whnf
      refine ⟨i + 1, ⟨by omega, ?_⟩, by omega, ⟨⟨rfl, rfl, rfl, by simp [lk], trivial⟩, rfl, rfl⟩⟩
      rw [List.take_succ_eq_append_getElem (by omega)]
      refine okL_append.2 ⟨hd, fun x hx => ?_⟩
      simp [List.getD_eq_getElem?_getD, show i < l.length by omega] at h1
      rw [List.mem_singleton.1 hx]
      exact h1
  · have : i = l.length := by omega
    subst this
    rw [List.take_length] at hd
    repeat' ((conv => whnf); first | refine ngo ?_ | refine VB.tt ?_ | refine VB.ff ?_ | refine VNew.keep ?_ | refine dgo ?_ | refine sgo ?_ | fail)
    conv => whnf
    exact ⟨_, rfl, fun h => absurd h (by decide), fun h => absurd hd h⟩

theorem containsf_c {l : List Nat} (ll : l.length < 1000000000) : VCall EE 63 [natL l, .fn (.func 64) [] []] [] fun v H => v = .bool (!l.all (fun x => decide (x < BB))) := by
  refine VCall.of_body true Try.func63 rfl (by decide) rfl ?_
  repeat' ((conv => whnf); first | refine ngo ?_ | refine VB.tt ?_ | refine VB.ff ?_ | refine VNew.keep ?_ | refine dgo ?_ | refine sgo ?_ | fail)
  conv => whnf
  refine VCall.isolate (indexf_c ll) (by repeat' (first | exact trivial | exact low_natL 0 _ | exact low_limbs 0 _ | refine And.intro ?_ ?_ | fail)) fun v0 H0 hz => ?_
  obtain ⟨r, rfl, hr⟩ := hz
  refine ⟨_, .same rfl trivial, ?_⟩
  repeat' ((conv => whnf); first | refine ngo ?_ | refine VB.tt ?_ | refine VB.ff ?_ | refine VNew.keep ?_ | refine dgo ?_ | refine sgo ?_ | fail)
  conv => whnf
  congr 1
  by_cases h : okL l
  · rw [decide_eq_false (fun h1 => (hr.1 h1) h), List.all_eq_true.2 (fun x hx => decide_eq_true (h x hx))]
    rfl
  · rw [decide_eq_true (hr.2 h)]
    cases e : l.all (fun x => decide (x < BB)) with
    | false => rfl
    | true => exact absurd (fun x hx => of_decide_eq_true (List.all_eq_true.1 e x hx)) h

theorem check_c (l : List Nat) (ll : l.length < 1000000000000000000) : VCall EE 53 [natL l] [] fun v H => v = .int .i64 (chk l) := by
  refine VCall.of_body true Try.func53 rfl (by decide) rfl ?_
  repeat' ((conv => whnf); first | refine ngo ?_ | refine VB.tt ?_ | refine VB.ff ?_ | refine VNew.keep ?_ | refine dgo ?_ | refine sgo ?_ | fail)
  conv => whnf
  refine VB.dec (fun h => ?_) (fun h => ?_)
  · repeat' ((conv => whnf); first | refine ngo ?_ | refine VB.tt ?_ | refine VB.ff ?_ | refine VNew.keep ?_ | refine dgo ?_ | refine sgo ?_ | fail)
    conv => whnf
    rw [chk, if_pos (by omega)]
  · repeat' ((conv => whnf); first | refine ngo ?_ | refine VB.tt ?_ | refine VB.ff ?_ | refine VNew.keep ?_ | refine dgo ?_ | refine sgo ?_ | fail)
    conv => whnf
    refine VCall.s (containsf_c (by omega)) ?_
    repeat' ((conv => whnf); first | refine ngo ?_ | refine VB.tt ?_ | refine VB.ff ?_ | refine VNew.keep ?_ | refine dgo ?_ | refine sgo ?_ | fail)
    conv => whnf
    have hc : chk l = if canonB l then 0 else 3 := by rw [chk, if_neg (by omega)]
    unfold canonB at hc
    cases e : l.all (fun x => decide (x < BB)) with
    | false =>
      rw [e] at hc
      repeat' ((conv => whnf); first | refine ngo ?_ | refine VB.tt ?_ | refine VB.ff ?_ | refine VNew.keep ?_ | refine dgo ?_ | refine sgo ?_ | fail)
      conv => whnf
      rw [hc]
      rfl
    | true =>
      rw [e] at hc
      repeat' ((conv => whnf); first | refine ngo ?_ | refine VB.tt ?_ | refine VB.ff ?_ | refine VNew.keep ?_ | refine dgo ?_ | refine sgo ?_ | fail)
      conv => whnf
      by_cases h0 : (l.length : Int) > 0
      · rw [decide_eq_true h0]
        have el : ((l.length : Int) - 1).toNat = l.length - 1 := by omega
        have hl : l.getLast? = some (l.getD (l.length - 1) 0) := by
          rw [List.getLast?_eq_getElem?, List.getD_eq_getElem?_getD, List.getElem?_eq_getElem (by omega)]
          rfl
        rw [hl] at hc
        repeat' ((conv => whnf); first | refine ngo ?_ | refine VB.tt ?_ | refine VB.ff ?_ | refine VNew.keep ?_ | refine dgo ?_ | refine sgo ?_ | fail)
        conv => whnf
        rw [el, Nat.mul_one, getInt_limbs]
        generalize l.getD (l.length - 1) 0 = x at *
        refine VB.eq (fun h1 => ?_) (fun h1 => ?_)
        · have h1 : x = 0 := by omega
          subst h1
          repeat' ((conv => whnf); first | refine ngo ?_ | refine VB.tt ?_ | refine VB.ff ?_ | refine VNew.keep ?_ | refine dgo ?_ | refine sgo ?_ | fail)
          conv => whnf
          rw [hc]
          rfl
        · have h1 : x ≠ 0 := by omega
          repeat' ((conv => whnf); first | refine ngo ?_ | refine VB.tt ?_ | refine VB.ff ?_ | refine VNew.keep ?_ | refine dgo ?_ | refine sgo ?_ | fail)
          conv => whnf
          rw [hc]
          simp [h1]
      · rw [decide_eq_false h0]
        have : l = [] := List.length_eq_zero_iff.1 (by omega)
        subst this
        repeat' ((conv => whnf); first | refine ngo ?_ | refine VB.tt ?_ | refine VB.ff ?_ | refine VNew.keep ?_ | refine dgo ?_ | refine sgo ?_ | fail)
        conv => whnf
        rfl

def both2 (a b : List Nat) : Int := if chk a = 0 then chk b else chk a
theorem both2_zero {a b : List Nat} (h : both2 a b = 0) : chk a = 0 ∧ chk b = 0 := by
  unfold both2 at h
  split at h
  · exact ⟨by assumption, h⟩
  · exact absurd h (by assumption)

theorem checked_c (a b : List Nat) (la : a.length < 1000000000000000000) (lb : b.length < 1000000000000000000) : VCall EE 31 [.dsl [natL a, natL b] 2] [] fun v H => v = .int .i64 (both2 a b) := by
  refine VCall.of_body true Try.func31 rfl (by decide) rfl ?_
  repeat' ((conv => whnf); first | refine ngo ?_ | refine VB.tt ?_ | refine VB.ff ?_ | refine VNew.keep ?_ | refine dgo ?_ | refine sgo ?_ | fail)
  conv => whnf
  refine VLoop.ix true (fun i : Nat => ⟨[(6, .dsl [natL a, natL b] 2), (7, .int .i64 2), (8, .int .i64 i)], [], []⟩) (fun i => i ≤ 2 ∧ (1 ≤ i → chk a = 0) ∧ (2 ≤ i → chk b = 0)) (fun i => 2 - i) 0 ⟨by decide, fun h => by omega, fun h => by omega⟩ ⟨⟨rfl, rfl, rfl, trivial⟩, rfl, rfl⟩ ?_
  rintro i ⟨hi, h1, h2⟩
  have h3 : i = 0 ∨ i = 1 ∨ i = 2 := by omega
  rcases h3 with rfl | rfl | rfl
  · repeat' ((conv => whnf); first | refine ngo ?_ | refine VB.tt ?_ | refine VB.ff ?_ | refine VNew.keep ?_ | refine dgo ?_ | refine sgo ?_ | fail)
    conv => whnf
    refine VCall.s (check_c a la) ?_
    repeat' ((conv => whnf); first | refine ngo ?_ | refine VB.tt ?_ | refine VB.ff ?_ | refine VNew.keep ?_ | refine dgo ?_ | refine sgo ?_ | fail)
    conv => whnf
    refine VB.ne (fun h => ?_) (fun h => ?_)
    · repeat' ((conv => whnf); first | refine ngo ?_ | refine VB.tt ?_ | refine VB.ff ?_ | refine VNew.keep ?_ | refine dgo ?_ | refine sgo ?_ | fail)
      conv => whnf
      rw [both2, if_neg h]
    · repeat' ((conv => whnf); first | refine ngo ?_ | refine VB.tt ?_ | refine VB.ff ?_ | refine VNew.keep ?_ | refine dgo ?_ | refine sgo ?_ | fail)
      conv => whnf
      exact ⟨1, ⟨by decide, fun _ => h, fun h => by omega⟩, by decide, ⟨⟨rfl, rfl, rfl, trivial⟩, rfl, rfl⟩⟩
  · repeat' ((conv => whnf); first | refine ngo ?_ | refine VB.tt ?_ | refine VB.ff ?_ | refine VNew.keep ?_ | refine dgo ?_ | refine sgo ?_ | fail)
    conv => whnf
    refine VCall.s (check_c b lb) ?_
    repeat' ((conv => whnf); first | refine ngo ?_ | refine VB.tt ?_ | refine VB.ff ?_ | refine VNew.keep ?_ | refine dgo ?_ | refine sgo ?_ | fail)
    conv => whnf
    refine VB.ne (fun h => ?_) (fun h => ?_)
    · repeat' ((conv => whnf); first | refine ngo ?_ | refine VB.tt ?_ | refine VB.ff ?_ | refine VNew.keep ?_ | refine dgo ?_ | refine sgo ?_ | fail)
      conv => whnf
      rw [both2, if_pos (h1 (by decide))]
    · repeat' ((conv => whnf); first | refine ngo ?_ | refine VB.tt ?_ | refine VB.ff ?_ | refine VNew.keep ?_ | refine dgo ?_ | refine sgo ?_ | fail)
      conv => whnf
      exact ⟨2, ⟨by decide, fun _ => h1 (by decide), fun _ => h⟩, by decide, ⟨⟨rfl, rfl, rfl, trivial⟩, rfl, rfl⟩⟩
  · repeat' ((conv => whnf); first | refine ngo ?_ | refine VB.tt ?_ | refine VB.ff ?_ | refine VNew.keep ?_ | refine dgo ?_ | refine sgo ?_ | fail)
    conv => whnf
    rw [both2, if_pos (h1 (by decide)), h2 (by decide)]

/-- Results of two numbers: a number and an error. -/
def res2 (a b : List Nat) (n : Nat) (e : Int) : AV := .tup [natv (if both2 a b = 0 then n else 0), .int .i64 (if both2 a b = 0 then e else both2 a b)]

theorem with_c {a b : List Nat} {g : FuncId} {n : Nat} {e : Int} (la : a.length < 1000000000000000000) (lb : b.length < 1000000000000000000) (hg : both2 a b = 0 → VCall EE g [natL a, natL b] [] fun v H => Fz H 0 [] v (.tup [natv n, .int .i64 e])) :
    VCall EE 35 [natL a, natL b, .fn (.func g) [] []] [] fun v H => Fz H 0 [] v (res2 a b n e) := by
  refine VCall.of_body true Try.func35 rfl (by decide) rfl ?_
  repeat' ((conv => whnf); first | refine ngo ?_ | refine VB.tt ?_ | refine VB.ff ?_ | refine dgo ?_ | refine sgo ?_ | fail)
  conv => whnf
  refine VNew.dat (cs' := [natL a, natL b]) rfl rfl ?_
  repeat' ((conv => whnf); first | refine ngo ?_ | refine VB.tt ?_ | refine VB.ff ?_ | refine VNew.keep ?_ | refine dgo ?_ | refine sgo ?_ | fail)
  conv => whnf
  refine VCall.s (checked_c a b la lb) ?_
  repeat' ((conv => whnf); first | refine ngo ?_ | refine VB.tt ?_ | refine VB.ff ?_ | refine VNew.keep ?_ | refine dgo ?_ | refine sgo ?_ | fail)
  conv => whnf
  refine VB.ne (fun h => ?_) (fun h => ?_)
  · repeat' ((conv => whnf); first | refine ngo ?_ | refine VB.tt ?_ | refine VB.ff ?_ | refine VNew.keep ?_ | refine dgo ?_ | refine sgo ?_ | fail)
    conv => whnf
    rw [res2, if_neg h, if_neg h]
    repeat' (first | exact fz_nil0 | exact Fz.nsl | exact Fz.same rfl (by repeat' (first | exact trivial | exact low_natL 0 _ | exact low_limbs 0 _ | refine And.intro ?_ ?_ | fail)) | refine Fz.tup ?_ | refine FzL.cons ?_ ?_ | exact FzL.nil | fail)
  · repeat' ((conv => whnf); first | refine ngo ?_ | refine VB.tt ?_ | refine VB.ff ?_ | refine VNew.keep ?_ | refine dgo ?_ | refine sgo ?_ | fail)
    conv => whnf
    refine VCall.i (hg h) ?_
    repeat' ((conv => whnf); first | refine ngo ?_ | refine VB.tt ?_ | refine VB.ff ?_ | refine VNew.keep ?_ | refine dgo ?_ | refine sgo ?_ | fail)
    conv => whnf
    rw [res2, if_pos h, if_pos h]
    repeat' (first | exact fz_nil0 | exact Fz.nsl | exact Fz.same rfl (by repeat' (first | exact trivial | exact low_natL 0 _ | exact low_limbs 0 _ | refine And.intro ?_ ?_ | fail)) | refine Fz.tup ?_ | refine FzL.cons ?_ ?_ | exact FzL.nil | fail)

theorem fits_c {n : Nat} (hn : (dg n).length < 1000000000000000000) : VCall EE 41 [natv n] [] fun v H => Fz H 0 [] v (.tup [natv (if 1024 < (dg n).length then 0 else n), .int .i64 (if 1024 < (dg n).length then 5 else 0)]) := by
  refine VCall.of_body true Try.func41 rfl (by decide) rfl ?_
  repeat' ((conv => whnf); first | refine ngo ?_ | refine VB.tt ?_ | refine VB.ff ?_ | refine VNew.keep ?_ | refine dgo ?_ | refine sgo ?_ | fail)
  conv => whnf
  refine VB.dec (fun h => ?_) (fun h => ?_)
  · repeat' ((conv => whnf); first | refine ngo ?_ | refine VB.tt ?_ | refine VB.ff ?_ | refine VNew.keep ?_ | refine dgo ?_ | refine sgo ?_ | fail)
    conv => whnf
    rw [if_pos (by omega), if_pos (by omega)]
    repeat' (first | exact fz_nil0 | exact Fz.nsl | exact Fz.same rfl (by repeat' (first | exact trivial | exact low_natL 0 _ | exact low_limbs 0 _ | refine And.intro ?_ ?_ | fail)) | refine Fz.tup ?_ | refine FzL.cons ?_ ?_ | exact FzL.nil | fail)
  · repeat' ((conv => whnf); first | refine ngo ?_ | refine VB.tt ?_ | refine VB.ff ?_ | refine VNew.keep ?_ | refine dgo ?_ | refine sgo ?_ | fail)
    conv => whnf
    rw [if_neg (by omega), if_neg (by omega)]
    repeat' (first | exact fz_nil0 | exact Fz.nsl | exact Fz.same rfl (by repeat' (first | exact trivial | exact low_natL 0 _ | exact low_limbs 0 _ | refine And.intro ?_ ?_ | fail)) | refine Fz.tup ?_ | refine FzL.cons ?_ ?_ | exact FzL.nil | fail)

theorem divide_n {a b : Nat} (hb : b ≠ 0) (la : (dg a).length < 10000000) (lb : (dg b).length < 10000000) : VCall EE 32 [natv a, natv b] [] fun v H => Fz H 0 [] v (.tup [natv (a / b), natv (a % b)]) := by
  have := divide_c (canon_dg a) (canon_dg b) (fun h => hb (dg_eq_nil.1 h)) la lb
  rwa [val_dg, val_dg] at this
theorem product_n {a b : Nat} (la : (dg a).length < 10000000) (lb : (dg b).length < 10000000) : VCall EE 42 [natv a, natv b] [] fun v H => Fz H 0 [] v (natv (a * b)) := by
  refine (product_own (okL_dg a) (okL_dg b) (by omega) (by omega)).mono fun v H hz => ?_
  obtain ⟨l, hl1, hl2, rfl, rfl⟩ := hz
  rw [val_dg, val_dg] at *
  exact .nat (Nat.zero_le _) (by simp) rfl (by rw [Nat.mul_one, ← hl2, limbs_take, take_dg hl1]) rfl

theorem common_n {a b : Nat} (la : (dg a).length < 10000000) (lb : (dg b).length < 10000000) : VCall EE 37 [natv a, natv b] [] fun v H => Fz H 0 [] v (natv (Nat.gcd a b)) := by
  refine VCall.of_body true Try.func37 rfl (by decide) rfl ?_
  repeat' ((conv => whnf); first | refine ngo ?_ | refine VB.tt ?_ | refine VB.ff ?_ | refine VNew.keep ?_ | refine dgo ?_ | refine sgo ?_ | fail)
  conv => whnf
  refine VLoop.ix true (fun x : Nat × Nat => ⟨[(0, natv x.1), (1, natv x.2)], [], []⟩) (fun x => Nat.gcd x.1 x.2 = Nat.gcd a b ∧ (dg x.1).length < 10000000 ∧ (dg x.2).length < 10000000) (fun x => x.2) (a, b) ⟨rfl, la, lb⟩ ⟨⟨rfl, rfl, trivial⟩, rfl, rfl⟩ ?_
  rintro ⟨x, y⟩ ⟨hg, lx, ly⟩
  dsimp only at hg lx ly ⊢
  repeat' ((conv => whnf); first | refine ngo ?_ | refine VB.tt ?_ | refine VB.ff ?_ | refine VNew.keep ?_ | refine dgo ?_ | refine sgo ?_ | fail)
  conv => whnf
  refine VB.dec (fun h => ?_) (fun h => ?_)
  · have hy : y ≠ 0 := by rintro rfl; rw [dg_zero] at h; exact absurd h (by decide)
    repeat' ((conv => whnf); first | refine ngo ?_ | refine VB.tt ?_ | refine VB.ff ?_ | refine VNew.keep ?_ | refine dgo ?_ | refine sgo ?_ | fail)
    conv => whnf
    refine VCall.i (divide_n hy lx ly) ?_
    repeat' ((conv => whnf); first | refine ngo ?_ | refine VB.tt ?_ | refine VB.ff ?_ | refine VNew.keep ?_ | refine dgo ?_ | refine sgo ?_ | fail)
    conv => whnf
    refine ⟨(y, x % y), ⟨?_, ly, ?_⟩, Nat.mod_lt _ (by omega), ⟨⟨rfl, rfl, trivial⟩, rfl, rfl⟩⟩
    · dsimp only; rw [← hg, Nat.gcd_comm y, ← Nat.gcd_rec, Nat.gcd_comm]
    · dsimp only; exact Nat.lt_of_le_of_lt (dg_length_mono (Nat.le_of_lt (Nat.mod_lt _ (by omega)))) ly
  · have hy : y = 0 := by
      rcases Nat.eq_zero_or_pos y with h0 | h0
      · exact h0
      · have := pow_le_of_dg (n := y) (by omega)
        have h1 : (dg y).length ≠ 0 := fun e => by have := dg_eq_nil.1 (List.length_eq_zero_iff.1 e); omega
        omega
    subst hy
    rw [Nat.gcd_zero_right] at hg
    subst hg
    repeat' ((conv => whnf); first | refine ngo ?_ | refine VB.tt ?_ | refine VB.ff ?_ | refine VNew.keep ?_ | refine dgo ?_ | refine sgo ?_ | fail)
    conv => whnf
    refine VCall.i (clone_c _ (by omega)) ?_
    repeat' ((conv => whnf); first | refine ngo ?_ | refine VB.tt ?_ | refine VB.ff ?_ | refine VNew.keep ?_ | refine dgo ?_ | refine sgo ?_ | fail)
    conv => whnf
    repeat' (first | exact fz_nil0 | exact Fz.nsl | exact Fz.same rfl (by repeat' (first | exact trivial | exact low_natL 0 _ | exact low_limbs 0 _ | refine And.intro ?_ ?_ | fail)) | refine Fz.tup ?_ | refine FzL.cons ?_ ?_ | exact FzL.nil | fail)
end Go.Proofs.Ytcdnonggajoghaa
