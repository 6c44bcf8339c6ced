/- Contracts: sums and differences. -/
import Derived.Test.YtcdnonggajoghaaC12
import Derived.Test.YtcdnonggajoghaaV9
namespace Go.Proofs.Ytcdnonggajoghaa
open Go Go.RowKit
set_option linter.unusedVariables false
set_option linter.unusedSimpArgs false
set_option maxRecDepth 100000

theorem both_c {a b : List Nat} : VCall EE 62 [natL a, natL b] [] fun v H => Fz H 0 [] v (.fn (.func 65) [] [.dptr [natL a], .dptr [natL b]]) := by
  refine VCall.of_body true Try.func62 rfl (by decide) rfl ?_
  repeat' ((conv => whnf); first | refine ngo ?_ | refine VB.tt ?_ | refine VB.ff ?_ | refine VNew.keep ?_ | refine dgo ?_ | refine sgo ?_ | fail)
  conv => whnf
  exact .fn .nil (.cons (.ptr (Nat.zero_le _) (by simp) rfl (.cons (.same rfl (low_natL 0 a)) .nil)) (.cons (.ptr (Nat.zero_le _) (by simp) rfl (.cons (.same rfl (low_natL 0 b)) .nil)) .nil))

theorem both1_c {a b : List Nat} {H0 : Heap} {yb : Nat} (hyb : yb < H0.length) (la : a.length < 1000000000) (lb : b.length < 1000000000) (I : Nat → Heap → Prop) (h0 : I 0 H0)
    (hr : ∀ i H, i < max a.length b.length → I i H → VRound EE yb [.int .u64 ((a.getD i 0 : Nat) : Int), .int .u64 ((b.getD i 0 : Nat) : Int)] H fun v H' => v = .bool true ∧ ∃ H'', I (i + 1) H'' ∧ FzHp H' H0.length [] (List.range H0.length ++ []) H'')
    (ha : okL a) (hb : okL b) :
    VCall EE 65 [.yld yb, .dptr [natL a], .dptr [natL b]] H0 fun v H' => I (max a.length b.length) H' := by
  refine VCall.of_body true Try.func65 rfl (by decide) rfl ?_
  have hmx : (if (b.length : Int) > (a.length : Int) then (b.length : Int) else (a.length : Int)) = ((max a.length b.length : Nat) : Int) := by
    split <;> omega
  repeat' ((conv => whnf); first | refine ngo ?_ | refine VB.tt ?_ | refine VB.ff ?_ | refine VNew.keep ?_ | refine dgo ?_ | refine sgo ?_ | fail)
  conv => whnf
  refine VLoop.tr true (fun x : Nat × Heap => ⟨[(0, .yld yb), (1, .dptr [natL a]), (2, .dptr [natL b]), (11, .int .i64 ((max a.length b.length : Nat) : Int)), (12, .int .i64 x.1)], x.2, []⟩) (fun x => x.1 ≤ max a.length b.length ∧ I x.1 x.2) (fun x => max a.length b.length - x.1) (0, H0)
    ⟨Nat.zero_le _, h0⟩ ⟨⟨rfl, rfl, rfl, by simp only [lk]; rw [← hmx]; rfl, rfl, trivial⟩, rfl, rfl⟩ ?_
  rintro ⟨i, H⟩ ⟨hi, hI⟩
  dsimp only at hi hI ⊢
  repeat' ((conv => whnf); first | refine ngo ?_ | refine VB.tt ?_ | refine VB.ff ?_ | refine VNew.keep ?_ | refine dgo ?_ | refine sgo ?_ | fail)
  conv => whnf
  refine VB.dec (fun h => ?_) (fun h => ?_)
  · have hil : i < max a.length b.length := by omega
    have hx := getD_lt ha i
    have hy := getD_lt hb i
    have hBB : BB = 1000000000 := rfl
    have ga : getInt (List.drop ((i : Int).toNat * 1) (limbs a)) = ((a.getD i 0 : Nat) : Int) := by rw [Int.toNat_natCast, Nat.mul_one, getInt_limbs]
    have gb : getInt (List.drop ((i : Int).toNat * 1) (limbs b)) = ((b.getD i 0 : Nat) : Int) := by rw [Int.toNat_natCast, Nat.mul_one, getInt_limbs]
    have za : a.length ≤ i → (0 : Int) = ((a.getD i 0 : Nat) : Int) := fun h => by simp [List.getD_eq_getElem?_getD, h]
    have zb : b.length ≤ i → (0 : Int) = ((b.getD i 0 : Nat) : Int) := fun h => by simp [List.getD_eq_getElem?_getD, h]
    have hrr := hr i H hil hI
    generalize a.getD i 0 = x at *
    generalize b.getD i 0 = y at *
    repeat' ((conv => whnf); first | refine ngo ?_ | refine VB.tt ?_ | refine VB.ff ?_ | refine VNew.keep ?_ | refine dgo ?_ | refine sgo ?_ | fail)
    conv => whnf
    refine VB.dec (fun h1 => ?_) (fun h1 => ?_)
    · repeat' ((conv => whnf); first | refine ngo ?_ | refine VB.tt ?_ | refine VB.ff ?_ | refine VNew.keep ?_ | refine dgo ?_ | refine sgo ?_ | fail)
      conv => whnf
      rw [ga]
      repeat' ((conv => whnf); first | refine ngo ?_ | refine VB.tt ?_ | refine VB.ff ?_ | refine VNew.keep ?_ | refine dgo ?_ | refine sgo ?_ | fail)
      conv => whnf
      refine VB.dec (fun h2 => ?_) (fun h2 => ?_)
      · repeat' ((conv => whnf); first | refine ngo ?_ | refine VB.tt ?_ | refine VB.ff ?_ | refine VNew.keep ?_ | refine dgo ?_ | refine sgo ?_ | fail)
        conv => whnf
        rw [gb]
        repeat' ((conv => whnf); first | refine ngo ?_ | refine VB.tt ?_ | refine VB.ff ?_ | refine VNew.keep ?_ | refine dgo ?_ | refine sgo ?_ | fail)
        conv => whnf
        refine hrr.mono fun v H' hq => ?_
        obtain ⟨rfl, H'', hI2, hz⟩ := hq
        repeat' ((conv => whnf); first | refine ngo ?_ | refine VB.tt ?_ | refine VB.ff ?_ | refine VNew.keep ?_ | refine dgo ?_ | refine sgo ?_ | fail)
        conv => whnf
        exact ⟨(i + 1, H''), ⟨hil, hI2⟩, by dsimp only; omega, [], by simp, by simp, hz, FzFr.sub ⟨hyb, ⟨low_natL _ a, trivial⟩, ⟨low_natL _ b, trivial⟩, trivial, trivial, trivial⟩ ⟨rfl, rfl, rfl, rfl, by simp [lk], trivial⟩, rfl, by simp⟩
      · repeat' ((conv => whnf); first | refine ngo ?_ | refine VB.tt ?_ | refine VB.ff ?_ | refine VNew.keep ?_ | refine dgo ?_ | refine sgo ?_ | fail)
        conv => whnf
        rw [← zb (by omega)] at hrr
        refine hrr.mono fun v H' hq => ?_
        obtain ⟨rfl, H'', hI2, hz⟩ := hq
        repeat' ((conv => whnf); first | refine ngo ?_ | refine VB.tt ?_ | refine VB.ff ?_ | refine VNew.keep ?_ | refine dgo ?_ | refine sgo ?_ | fail)
        conv => whnf
        exact ⟨(i + 1, H''), ⟨hil, hI2⟩, by dsimp only; omega, [], by simp, by simp, hz, FzFr.sub ⟨hyb, ⟨low_natL _ a, trivial⟩, ⟨low_natL _ b, trivial⟩, trivial, trivial, trivial⟩ ⟨rfl, rfl, rfl, rfl, by simp [lk], trivial⟩, rfl, by simp⟩
    · repeat' ((conv => whnf); first | refine ngo ?_ | refine VB.tt ?_ | refine VB.ff ?_ | refine VNew.keep ?_ | refine dgo ?_ | refine sgo ?_ | fail)
      conv => whnf
      refine VB.dec (fun h2 => ?_) (fun h2 => ?_)
      · repeat' ((conv => whnf); first | refine ngo ?_ | refine VB.tt ?_ | refine VB.ff ?_ | refine VNew.keep ?_ | refine dgo ?_ | refine sgo ?_ | fail)
        conv => whnf
        rw [gb]
        repeat' ((conv => whnf); first | refine ngo ?_ | refine VB.tt ?_ | refine VB.ff ?_ | refine VNew.keep ?_ | refine dgo ?_ | refine sgo ?_ | fail)
        conv => whnf
        rw [← za (by omega)] at hrr
        refine hrr.mono fun v H' hq => ?_
        obtain ⟨rfl, H'', hI2, hz⟩ := hq
        repeat' ((conv => whnf); first | refine ngo ?_ | refine VB.tt ?_ | refine VB.ff ?_ | refine VNew.keep ?_ | refine dgo ?_ | refine sgo ?_ | fail)
        conv => whnf
        exact ⟨(i + 1, H''), ⟨hil, hI2⟩, by dsimp only; omega, [], by simp, by simp, hz, FzFr.sub ⟨hyb, ⟨low_natL _ a, trivial⟩, ⟨low_natL _ b, trivial⟩, trivial, trivial, trivial⟩ ⟨rfl, rfl, rfl, rfl, by simp [lk], trivial⟩, rfl, by simp⟩
      · exact absurd hil (by omega)
  · have : i = max a.length b.length := by omega
    subst this
    repeat' ((conv => whnf); first | refine ngo ?_ | refine VB.tt ?_ | refine VB.ff ?_ | refine VNew.keep ?_ | refine dgo ?_ | refine sgo ?_ | fail)
    conv => whnf
    exact to_forceH hI

def boxFr (a b : List Nat) (f : FuncId) (t : Tmp) : Fr := [(5, .ptr 1 0 0), (6, .ptr 2 0 0), (t, .fn (.func f) [] [.dptr [natL a], .dptr [natL b]])]
def sumH (l : List Nat) (ver c : Nat) (L : AObj) : Heap := [.cells ver 30 (limbs l), .cells 0 23 [.osl 0 ver 0 l.length 1], .cells 0 55 [.int .u64 c], .dfr, L]
theorem sum_own {a b : List Nat} (ha : okL a) (hb : okL b) (la : a.length < 10000000) (lb : b.length < 10000000) :
    VCall EE 46 [natL a, natL b] [] fun v H => Fz H 0 [] v (natv (val a + val b)) := by
  refine VCall.of_body true Try.func46 rfl (by decide) rfl ?_
  have hmx : (if (b.length : Int) > (a.length : Int) then (b.length : Int) else (a.length : Int)) = ((max a.length b.length : Nat) : Int) := by
    split <;> omega
  repeat' ((conv => whnf); first | refine ngo ?_ | refine VB.tt ?_ | refine VB.ff ?_ | refine VNew.keep ?_ | refine dgo ?_ | refine sgo ?_ | fail)
  conv => whnf
  rw [hmx]
  repeat' ((conv => whnf); first | refine ngo ?_ | refine VB.tt ?_ | refine VB.ff ?_ | refine VNew.keep ?_ | refine dgo ?_ | refine sgo ?_ | fail)
  conv => whnf
  refine VCall.i (both_c) ?_
  repeat' ((conv => whnf); first | refine VB.tt ?_ | refine VB.ff ?_ | refine VNew.keep ?_ | refine dgo ?_ | refine sgo ?_ | fail)
  conv => whnf
  refine VNext.at_ true ⟨boxFr a b 65 19, [.cells 0 30 [], .cells 0 23 [.osl 0 0 0 0 1], .cells 0 55 [.int .u64 (0 : Nat)]], []⟩ ⟨by (repeat' first | exact trivial | exact And.intro (by first | rfl | (simp [lk]; done)) trivial | refine And.intro (by first | rfl | (simp [lk]; done)) ?_), rfl, rfl⟩ ?_
  repeat' ((conv => whnf); first | refine ngo ?_ | refine VB.tt ?_ | refine VB.ff ?_ | refine VNew.keep ?_ | refine dgo ?_ | refine sgo ?_ | fail)
  conv => whnf
  refine VRange.out true (f := 65) (first := []) (cap := [.dptr [natL a], .dptr [natL b]]) rfl ?_
  obtain ⟨L, hL⟩ : ∃ L, L = rangeObj Try.f46 0 (boxFr a b 65 19) 3 := ⟨_, rfl⟩
  refine VCall.mono ?_ (both1_c (H0 := sumH [] 0 0 (rangeObj Try.f46 0 (boxFr a b 65 19) 3)) (yb := 4) (show 4 < 5 by decide) (by omega) (by omega) (fun i H => ∃ (l : List Nat) (c : Nat), l.length = i ∧ okL l ∧ c ≤ 1 ∧ val l + BB ^ i * c = val (a.take i) + val (b.take i) ∧ H = sumH l l.length c (rangeObj Try.f46 0 (boxFr a b 65 19) 3))
    ⟨[], 0, rfl, by intro x hx; simp at hx, Nat.zero_le _, by simp [val], rfl⟩ ?_ ha hb)
  · rintro v H ⟨l, c, hll, hok, hc, hv, rfl⟩
    rw [List.take_of_length_le (by omega), List.take_of_length_le (by omega), ← hll] at hv
    have hBB : BB = 1000000000 := rfl
    have gc : getInt (List.drop 0 [AV.int .u64 (c : Int)]) = (c : Int) := rfl
    have hnv : val (l ++ [c]) = val a + val b := by
      rw [val_append, ← hv]
      simp [val]
    have hnok : okL (l ++ [c]) := okL_append.2 ⟨hok, by intro z hz; rw [List.mem_singleton.1 hz]; omega⟩
    repeat' ((conv => whnf); first | refine ngo ?_ | refine VB.tt ?_ | refine VB.ff ?_ | refine VNew.keep ?_ | refine dgo ?_ | refine sgo ?_ | fail)
    conv => whnf
    rw [gc]
    repeat' ((conv => whnf); first | refine ngo ?_ | refine VB.tt ?_ | refine VB.ff ?_ | refine VNew.keep ?_ | refine dgo ?_ | refine sgo ?_ | fail)
    conv => whnf
    have e1 : List.take (l.length * 1) (limbs l) ++ [AV.int .u32 (c : Int)] = limbs (l ++ [c]) := by
      rw [Nat.mul_one, List.take_of_length_le (by simp [limbs]), limbs_append]; rfl
    have ht := trim_own0 (R := [.cells 0 23 [.osl 0 l.length 0 l.length 1], .cells 0 55 [.int .u64 c], .dfr, .gone, .cells 0 30 [.int .u32 (c : Int)]]) (ver := l.length + 1) (e := 30) hnok (by simp; omega)
    rw [← e1] at ht
    simp only [List.length_append, List.length_singleton] at ht
    refine ht.mono fun v H' hq => ?_
    obtain ⟨rfl, rfl⟩ := hq
    rw [hnv]
    repeat' ((conv => whnf); first | refine ngo ?_ | refine VB.tt ?_ | refine VB.ff ?_ | refine VNew.keep ?_ | refine dgo ?_ | refine sgo ?_ | fail)
    conv => whnf
    exact .nat (Nat.zero_le _) (by simp) rfl (by rw [Nat.mul_one, e1, limbs_take, ← hnv, take_dg hnok]) rfl
  · rintro i H hi ⟨l, c, hll, hok, hc, hv, rfl⟩
    refine VRound.of_body true (fr := boxFr a b 65 19) rfl rfl rfl ?_
    have hx := getD_lt ha i
    have hy := getD_lt hb i
    have hta := val_take_any a i
    have htb := val_take_any b i
    have hBB : BB = 1000000000 := rfl
    generalize a.getD i 0 = x at *
    generalize b.getD i 0 = y at *
    have gc : getInt (List.drop 0 [AV.int .u64 (c : Int)]) = (c : Int) := rfl
    obtain ⟨n, hn⟩ : ∃ n, n = x + y + c := ⟨_, rfl⟩
    have g0 : (x : Int) + (y : Int) + (c : Int) = (n : Int) := by omega
    have hmd := Nat.mod_add_div n BB
    have hmm := Nat.mod_lt n (show 0 < BB by decide)
    have hmq : n / BB ≤ 1 := Nat.le_of_lt_succ (Nat.div_lt_of_lt_mul (by omega))
    have g5 := tdiv_BB n
    have g6 := tmod_BB n
    generalize n / BB = q at *
    generalize n % BB = r at *
    have hnv : val (l ++ [r]) + BB ^ (i + 1) * q = val (a.take (i + 1)) + val (b.take (i + 1)) := by
      rw [val_append, hta, htb, hll, Nat.pow_succ, Nat.mul_assoc]
      simp only [val, Nat.mul_zero, Nat.add_zero]
      have e1 : BB ^ i * r + BB ^ i * (BB * q) = BB ^ i * x + BB ^ i * y + BB ^ i * c := by
        rw [← Nat.mul_add, hmd, hn, Nat.mul_add, Nat.mul_add]
      omega
    have hnok : okL (l ++ [r]) := okL_append.2 ⟨hok, by intro z hz; rw [List.mem_singleton.1 hz]; exact hmm⟩
    repeat' ((conv => whnf); first | refine ngo ?_ | refine VB.tt ?_ | refine VB.ff ?_ | refine VNew.keep ?_ | refine dgo ?_ | refine sgo ?_ | fail)
    conv => whnf
    rw [gc]
    repeat' ((conv => whnf); first | refine ngo ?_ | refine VB.tt ?_ | refine VB.ff ?_ | refine VNew.keep ?_ | refine dgo ?_ | refine sgo ?_ | fail)
    conv => whnf
    rw [g0]
    repeat' ((conv => whnf); first | refine ngo ?_ | refine VB.tt ?_ | refine VB.ff ?_ | refine VNew.keep ?_ | refine dgo ?_ | refine sgo ?_ | fail)
    conv => whnf
    rw [g6]
    repeat' ((conv => whnf); first | refine ngo ?_ | refine VB.tt ?_ | refine VB.ff ?_ | refine VNew.keep ?_ | refine dgo ?_ | refine sgo ?_ | fail)
    conv => whnf
    have e1 : List.take (l.length * 1) (limbs l) ++ [AV.int .u32 (r : Int)] = limbs (l ++ [r]) := by
      rw [Nat.mul_one, List.take_of_length_le (by simp [limbs]), limbs_append]; rfl
    have hl2 : (l ++ [r]).length = l.length + 1 := by simp
    refine ⟨sumH (l ++ [r]) (l ++ [r]).length q (rangeObj Try.f46 0 (boxFr a b 65 19) 3), ⟨l ++ [r], q, by omega, hnok, hmq, hnv, rfl⟩, ?_⟩
    rw [hl2]
    exact ⟨⟨_, rfl, .cells rfl (FzL.same e1 (low_limbs _ _))⟩, ⟨_, rfl, .cells rfl (.cons (.same (by rw [hl2]) (show 0 < 5 by decide)) .nil)⟩, ⟨_, rfl, .cells rfl (.cons (.same (by rw [g5]) trivial) .nil)⟩, ⟨_, rfl, .dfr⟩,
      ⟨_, rfl, .loop (FzFr.sub ⟨show 1 < 5 by decide, show 2 < 5 by decide, ⟨trivial, ⟨⟨low_natL _ a, trivial⟩, ⟨low_natL _ b, trivial⟩, trivial⟩⟩, trivial⟩ ⟨rfl, rfl, rfl, trivial⟩) (show 3 < 5 by decide)⟩, trivial⟩

theorem less_own {a b : List Nat} (ha : okL a) (hb : okL b) (la : a.length < 10000000) (lb : b.length ≤ a.length) (hle : val b ≤ val a) :
    VCall EE 49 [natL a, natL b] [] fun v H => Fz H 0 [] v (natv (val a - val b)) := by
  refine VCall.of_body true Try.func49 rfl (by decide) rfl ?_
  repeat' ((conv => whnf); first | refine ngo ?_ | refine VB.tt ?_ | refine VB.ff ?_ | refine VNew.keep ?_ | refine dgo ?_ | refine sgo ?_ | fail)
  conv => whnf
  refine VCall.i (both_c) ?_
  repeat' ((conv => whnf); first | refine VB.tt ?_ | refine VB.ff ?_ | refine VNew.keep ?_ | refine dgo ?_ | refine sgo ?_ | fail)
  conv => whnf
  refine VNext.at_ true ⟨boxFr a b 65 15, [.cells 0 30 [], .cells 0 23 [.osl 0 0 0 0 1], .cells 0 55 [.int .u64 (0 : Nat)]], []⟩ ⟨by (repeat' first | exact trivial | exact And.intro (by first | rfl | (simp [lk]; done)) trivial | refine And.intro (by first | rfl | (simp [lk]; done)) ?_), rfl, rfl⟩ ?_
  repeat' ((conv => whnf); first | refine ngo ?_ | refine VB.tt ?_ | refine VB.ff ?_ | refine VNew.keep ?_ | refine dgo ?_ | refine sgo ?_ | fail)
  conv => whnf
  refine VRange.out true (f := 65) (first := []) (cap := [.dptr [natL a], .dptr [natL b]]) rfl ?_
  refine VCall.mono ?_ (both1_c (H0 := sumH [] 0 0 (rangeObj Try.f49 0 (boxFr a b 65 15) 3)) (yb := 4) (show 4 < 5 by decide) (by omega) (by omega) (fun i H => ∃ (l : List Nat) (c : Nat), l.length = i ∧ okL l ∧ c ≤ 1 ∧ val l + val (b.take i) = val (a.take i) + BB ^ i * c ∧ H = sumH l l.length c (rangeObj Try.f49 0 (boxFr a b 65 15) 3))
    ⟨[], 0, rfl, by intro x hx; simp at hx, Nat.zero_le _, by simp [val], rfl⟩ ?_ ha hb)
  · rintro v H ⟨l, c, hll, hok, hc, hv, rfl⟩
    rw [List.take_of_length_le (by omega), List.take_of_length_le (by omega), ← hll] at hv
    have hvl := val_lt hok
    have hc0 : c = 0 := by
      rcases Nat.eq_zero_or_pos c with h0 | h0
      · exact h0
      · have h1 : c = 1 := by omega
        subst h1
        omega
    subst hc0
    have hnv : val l = val a - val b := by omega
    repeat' ((conv => whnf); first | refine ngo ?_ | refine VB.tt ?_ | refine VB.ff ?_ | refine VNew.keep ?_ | refine dgo ?_ | refine sgo ?_ | fail)
    conv => whnf
    refine (trim_own0 (R := [.cells 0 23 [.osl 0 l.length 0 l.length 1], .cells 0 55 [.int .u64 (0 : Nat)], .dfr, .gone]) (ver := l.length) (e := 30) hok (by omega)).mono fun v H' hq => ?_
    obtain ⟨rfl, rfl⟩ := hq
    rw [hnv]
    repeat' ((conv => whnf); first | refine ngo ?_ | refine VB.tt ?_ | refine VB.ff ?_ | refine VNew.keep ?_ | refine dgo ?_ | refine sgo ?_ | fail)
    conv => whnf
    exact .nat (Nat.zero_le _) (by simp) rfl (by rw [Nat.mul_one, limbs_take, ← hnv, take_dg hok]) rfl
  · rintro i H hi ⟨l, c, hll, hok, hc, hv, rfl⟩
    refine VRound.of_body true (fr := boxFr a b 65 15) rfl rfl rfl ?_
    have hx := getD_lt ha i
    have hy := getD_lt hb i
    have hta := val_take_any a i
    have htb := val_take_any b i
    have hBB : BB = 1000000000 := rfl
    generalize a.getD i 0 = x at *
    generalize b.getD i 0 = y at *
    have gc : getInt (List.drop 0 [AV.int .u64 (c : Int)]) = (c : Int) := rfl
    obtain ⟨n, hn⟩ : ∃ n, n = x + BB - y - c := ⟨_, rfl⟩
    have g0 : (x : Int) + 1000000000 - (y : Int) - (c : Int) = (n : Int) := by omega
    have hmd := Nat.mod_add_div n BB
    have hmm := Nat.mod_lt n (show 0 < BB by decide)
    have hmq : n / BB ≤ 1 := Nat.le_of_lt_succ (Nat.div_lt_of_lt_mul (by omega))
    have g5 := tdiv_BB n
    have g6 := tmod_BB n
    generalize n / BB = q at *
    generalize n % BB = r at *
    have hnv : val (l ++ [r]) + val (b.take (i + 1)) = val (a.take (i + 1)) + BB ^ (i + 1) * (1 - q) := by
      rw [val_append, hta, htb, hll, Nat.pow_succ, Nat.mul_assoc]
      simp only [val, Nat.mul_zero, Nat.add_zero]
      have e1 : BB ^ i * r + BB ^ i * y + BB ^ i * c = BB ^ i * x + BB ^ i * (BB * (1 - q)) := by
        rw [← Nat.mul_add, ← Nat.mul_add, ← Nat.mul_add]
        congr 1
        have h1 : BB * (1 - q) = BB - BB * q := by rw [Nat.mul_sub, Nat.mul_one]
        have h9 : BB * q ≤ BB := by have := Nat.mul_le_mul_left BB hmq; omega
        omega
      omega
    have hnok : okL (l ++ [r]) := okL_append.2 ⟨hok, by intro z hz; rw [List.mem_singleton.1 hz]; exact hmm⟩
    repeat' ((conv => whnf); first | refine ngo ?_ | refine VB.tt ?_ | refine VB.ff ?_ | refine VNew.keep ?_ | refine dgo ?_ | refine sgo ?_ | fail)
    conv => whnf
    rw [gc]
    repeat' ((conv => whnf); first | refine ngo ?_ | refine VB.tt ?_ | refine VB.ff ?_ | refine VNew.keep ?_ | refine dgo ?_ | refine sgo ?_ | fail)
    conv => whnf
    rw [g0]
    repeat' ((conv => whnf); first | refine ngo ?_ | refine VB.tt ?_ | refine VB.ff ?_ | refine VNew.keep ?_ | refine dgo ?_ | refine sgo ?_ | fail)
    conv => whnf
    rw [g5]
    repeat' ((conv => whnf); first | refine ngo ?_ | refine VB.tt ?_ | refine VB.ff ?_ | refine VNew.keep ?_ | refine dgo ?_ | refine sgo ?_ | fail)
    conv => whnf
    rw [g6]
    repeat' ((conv => whnf); first | refine ngo ?_ | refine VB.tt ?_ | refine VB.ff ?_ | refine VNew.keep ?_ | refine dgo ?_ | refine sgo ?_ | fail)
    conv => whnf
    have e1 : List.take (l.length * 1) (limbs l) ++ [AV.int .u32 (r : Int)] = limbs (l ++ [r]) := by
      rw [Nat.mul_one, List.take_of_length_le (by simp [limbs]), limbs_append]; rfl
    have hl2 : (l ++ [r]).length = l.length + 1 := by simp
    refine ⟨sumH (l ++ [r]) (l ++ [r]).length (1 - q) (rangeObj Try.f49 0 (boxFr a b 65 15) 3), ⟨l ++ [r], 1 - q, by omega, hnok, by omega, hnv, rfl⟩, ?_⟩
    rw [hl2]
    exact ⟨⟨_, rfl, .cells rfl (FzL.same e1 (low_limbs _ _))⟩, ⟨_, rfl, .cells rfl (.cons (.same (by rw [hl2]) (show 0 < 5 by decide)) .nil)⟩, ⟨_, rfl, .cells rfl (.cons (.same (by congr 1; omega) trivial) .nil)⟩, ⟨_, rfl, .dfr⟩,
      ⟨_, rfl, .loop (FzFr.sub ⟨show 1 < 5 by decide, show 2 < 5 by decide, ⟨trivial, ⟨⟨low_natL _ a, trivial⟩, ⟨low_natL _ b, trivial⟩, trivial⟩⟩, trivial⟩ ⟨rfl, rfl, rfl, trivial⟩) (show 3 < 5 by decide)⟩, trivial⟩
end Go.Proofs.Ytcdnonggajoghaa
