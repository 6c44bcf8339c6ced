/- Contracts of the document's calls at numbers; lists that numbers select. -/
import Derived.Test.YtcdnonggajoghaaC16
namespace Go.Proofs.Ytcdnonggajoghaa
open Go Go.RowKit
set_option linter.unusedVariables false
set_option linter.unusedSimpArgs false
set_option maxRecDepth 100000

theorem VCall.conv {E : Env} {g : FuncId} {args args' : List AV} {H : Heap} {Q : AV → Heap → Prop} (h : VCall E g args' H Q) (hA : ∀ K vs, VRL K args vs → VRL K args' vs) : VCall E g args H Q :=
  ⟨h.ok, fun K cargs w hH hv => h.call K cargs w hH (hA K cargs hv)⟩

theorem both2_dg {a b : Nat} (la : (dg a).length ≤ 1024) (lb : (dg b).length ≤ 1024) : both2 (dg a) (dg b) = 0 := by
  rw [both2, if_pos (chk_dg la), chk_dg lb]
theorem addN_eq {n : Nat} (h : (dg n).length ≤ 1024) : addN n = n := by rw [addN, if_neg (by omega)]
theorem addE_eq {n : Nat} (h : (dg n).length ≤ 1024) : addE n = 0 := by rw [addE, if_neg (by omega)]

theorem ndiv_n {a b : Nat} (la : (dg a).length ≤ 1024) (lb : (dg b).length ≤ 1024) (hb : b ≠ 0) : VCall EE 9 [natv a, natv b] [] fun v H => Fz H 0 [] v (.tup [natv (a / b), natv (a % b), .int .i64 0]) := by
  have h := ndiv_c (dg a) (dg b) (by omega) (by omega)
  rw [divR, if_pos (both2_dg la lb), val_dg, val_dg, if_neg hb] at h
  exact h
theorem ngcd_n {a b : Nat} (la : (dg a).length ≤ 1024) (lb : (dg b).length ≤ 1024) : VCall EE 12 [natv a, natv b] [] fun v H => Fz H 0 [] v (.tup [natv (Nat.gcd a b), .int .i64 0]) := by
  have h := ngcd_c (dg a) (dg b) (by omega) (by omega)
  rw [res2, if_pos (both2_dg la lb), if_pos (both2_dg la lb), val_dg, val_dg] at h
  exact h
theorem nlcm_n {a b : Nat} (la : (dg a).length ≤ 500) (lb : (dg b).length ≤ 500) : VCall EE 14 [natv a, natv b] [] fun v H => Fz H 0 [] v (.tup [natv (Nat.lcm a b), .int .i64 0]) := by
  have h := nlcm_c (dg a) (dg b) (by omega) (by omega)
  have hl : (dg (Nat.lcm a b)).length ≤ 1000 := by
    have h1 := dg_length_mono (Nat.mul_le_mul_right b (Nat.div_le_self a (Nat.gcd a b)))
    have h2 := dg_mul_le a b
    rw [lcm_alt]
    omega
  rw [res2, if_pos (both2_dg (by omega) (by omega)), if_pos (both2_dg (by omega) (by omega)), val_dg, val_dg, lcmN, lcmE, if_neg (by omega), if_neg (by omega)] at h
  exact h
theorem ncmp_n {a b : Nat} (la : (dg a).length ≤ 1024) (lb : (dg b).length ≤ 1024) : VCall EE 17 [natv a, natv b] [] fun v H => v = .tup [.int .i64 (cmpN a b), .int .i64 0] := by
  have h := ncmp_c (dg a) (dg b) (by omega) (by omega)
  rw [both2_dg la lb, if_pos rfl, val_dg, val_dg] at h
  exact h
theorem nsub_n {a b : Nat} (la : (dg a).length ≤ 1024) (h0 : b ≤ a) : VCall EE 23 [natv a, natv b] [] fun v H => Fz H 0 [] v (.tup [natv (a - b), .int .i64 0]) := by
  have hl := dg_length_mono h0
  have h := nsub_c (dg a) (dg b) (by omega) (by omega)
  rw [res2, if_pos (both2_dg la (by omega)), if_pos (both2_dg la (by omega)), val_dg, val_dg, subE, if_neg (by omega)] at h
  exact h
theorem npow_n {a n : Nat} (la : (dg a).length ≤ 1024) (hn : n ≤ 10000) (hl : (dg (a ^ n)).length ≤ 1024) : VCall EE 27 [natv a, .int .i64 n] [] fun v H => Fz H 0 [] v (.tup [natv (a ^ n), .int .i64 0]) := by
  have h := npow_c (dg a) n (by omega) (by omega) (by omega)
  rw [powN, powE, if_pos ⟨chk_dg la, by omega, by omega⟩, if_pos (chk_dg la), if_pos ⟨by omega, by omega⟩, Int.toNat_natCast, val_dg, addN_eq hl, addE_eq hl] at h
  exact h

theorem lsum_n {a b : Nat} (la : (dg a).length ≤ 1000) (lb : (dg b).length ≤ 1000) : VCall EE 18 [natv a, natv b] [] fun v H => Fz H 0 [] v (natv (a + b)) := by
  refine VCall.of_body true Try.func18 rfl (by decide) rfl ?_
  have h := nadd_c (dg a) (dg b) (by omega) (by omega)
  have hl := dg_add_le a b
  rw [res2, if_pos (both2_dg (by omega) (by omega)), if_pos (both2_dg (by omega) (by omega)), val_dg, val_dg, addN_eq (by omega), addE_eq (by omega)] at h
  repeat' ((conv => whnf); first | refine ngo ?_ | refine VB.tt ?_ | refine VB.ff ?_ | refine VNew.keep ?_ | refine dgo ?_ | refine sgo ?_ | fail)
  conv => whnf
  refine VCall.i (h) ?_
  repeat' ((conv => whnf); first | refine ngo ?_ | refine VB.tt ?_ | refine VB.ff ?_ | refine VNew.keep ?_ | refine dgo ?_ | refine sgo ?_ | fail)
  conv => whnf
  repeat' (first | exact fz_nil0 | exact Fz.nsl | exact Fz.same rfl (by repeat' (first | exact trivial | exact low_natL 0 _ | exact low_limbs 0 _ | refine And.intro ?_ ?_ | fail)) | refine Fz.tup ?_ | refine FzL.cons ?_ ?_ | exact FzL.nil | fail)
theorem lproduct_n {a b : Nat} (la : (dg a).length + (dg b).length ≤ 1024) : VCall EE 19 [natv a, natv b] [] fun v H => Fz H 0 [] v (natv (a * b)) := by
  refine VCall.of_body true Try.func19 rfl (by decide) rfl ?_
  have h := nmul_c (dg a) (dg b) (by omega) (by omega)
  have hl := dg_mul_le a b
  rw [res2, if_pos (both2_dg (by omega) (by omega)), if_pos (both2_dg (by omega) (by omega)), val_dg, val_dg, mulN, mulE, if_neg (by omega), if_neg (by omega)] at h
  repeat' ((conv => whnf); first | refine ngo ?_ | refine VB.tt ?_ | refine VB.ff ?_ | refine VNew.keep ?_ | refine dgo ?_ | refine sgo ?_ | fail)
  conv => whnf
  refine VCall.i (h) ?_
  repeat' ((conv => whnf); first | refine ngo ?_ | refine VB.tt ?_ | refine VB.ff ?_ | refine VNew.keep ?_ | refine dgo ?_ | refine sgo ?_ | fail)
  conv => whnf
  repeat' (first | exact fz_nil0 | exact Fz.nsl | exact Fz.same rfl (by repeat' (first | exact trivial | exact low_natL 0 _ | exact low_limbs 0 _ | refine And.intro ?_ ?_ | fail)) | refine Fz.tup ?_ | refine FzL.cons ?_ ?_ | exact FzL.nil | fail)

theorem kmod_c (a : Int) (n1 : -9223372036854775808 ≤ a) (n2 : a < 9223372036854775808) : VCall EE 29 [.int .i64 a, .int .i64 21] [] fun v H => ∃ r : Nat, r ≤ 20 ∧ v = .int .i64 r := by
  refine VCall.of_body true Try.func29 rfl (by decide) rfl ?_
  have hb : -21 < a.tmod 21 ∧ a.tmod 21 < 21 := by
    obtain ⟨n, rfl | rfl⟩ := a.eq_nat_or_neg
    · have : ((n : Int)).tmod 21 = ((n % 21 : Nat) : Int) := rfl
      omega
    · rw [Int.neg_tmod]
      have : ((n : Int)).tmod 21 = ((n % 21 : Nat) : Int) := rfl
      omega
  generalize hm : a.tmod 21 = m at *
  repeat' ((conv => whnf); first | refine ngo ?_ | refine VB.tt ?_ | refine VB.ff ?_ | refine VNew.keep ?_ | refine dgo ?_ | refine sgo ?_ | fail)
  conv => whnf
  rw [hm]
  refine VB.dec (fun h => ?_) (fun h => ?_)
  · repeat' ((conv => whnf); first | refine ngo ?_ | refine VB.tt ?_ | refine VB.ff ?_ | refine VNew.keep ?_ | refine dgo ?_ | refine sgo ?_ | fail)
    conv => whnf
    exact ⟨(m + 21).toNat, by omega, by congr 1; omega⟩
  · repeat' ((conv => whnf); first | refine ngo ?_ | refine VB.tt ?_ | refine VB.ff ?_ | refine VNew.keep ?_ | refine dgo ?_ | refine sgo ?_ | fail)
    conv => whnf
    exact ⟨m.toNat, by omega, by congr 1; omega⟩

/-- The number whose limbs a list selects. -/
def sel (l : List Nat) : Nat := val (l.map (· % BB))
theorem okL_sel (l : List Nat) : okL (l.map (· % BB)) := by
  intro x hx
  obtain ⟨y, _, rfl⟩ := List.mem_map.1 hx
  exact Nat.mod_lt _ (by decide)
theorem sel_len (l : List Nat) : (dg (sel l)).length ≤ l.length := by
  have := dg_length_le (okL_sel l)
  simpa [sel] using this

theorem klimbs_nil : VLoop EE Try.f16.ntmps none (nthLoop Try.f16 1) (fun e s => e = .exit 2 ∧ ∃ y : Unit, True ∧ Meets ⟨[(3, .nsl)], [], []⟩ s) ⟨[(3, .nsl)], [], []⟩ := by
  refine VLoop.ix true (fun x : Unit => ⟨[(3, .nsl)], [], []⟩) (fun x => True) (fun x => 0) () trivial ⟨⟨rfl, trivial⟩, rfl, rfl⟩ ?_
  rintro x -
  repeat' ((conv => whnf); first | refine ngo ?_ | refine VB.tt ?_ | refine VB.ff ?_ | refine VNew.keep ?_ | refine dgo ?_ | refine sgo ?_ | fail)
  conv => whnf
  exact ⟨(), trivial, ⟨⟨rfl, trivial⟩, rfl, rfl⟩⟩

theorem klimbs_own {ver : Nat} {l : List Nat} (hok : okL l) (hl : l.length < 1000000000) :
    VLoop EE Try.f16.ntmps none (nthLoop Try.f16 1) (fun e s => e = .exit 2 ∧ ∃ y : Unit, True ∧ Meets ⟨[(3, .osl 0 ver 0 (dg (val l)).length 1)], [.cells ver 30 (limbs l)], []⟩ s)
      ⟨[(3, .osl 0 ver 0 l.length 1)], [.cells ver 30 (limbs l)], []⟩ := by
  refine VLoop.ix true (fun k : Nat => ⟨[(3, .osl 0 ver 0 k 1)], [.cells ver 30 (limbs l)], []⟩) (fun k => k ≤ l.length ∧ val (l.take k) = val l) id l.length ⟨Nat.le_refl _, by rw [List.take_length]⟩ ⟨⟨rfl, trivial⟩, rfl, rfl⟩ ?_
  rintro k ⟨hk, hv⟩
  repeat' ((conv => whnf); first | refine ngo ?_ | refine VB.tt ?_ | refine VB.ff ?_ | refine VNew.keep ?_ | refine dgo ?_ | refine sgo ?_ | fail)
  conv => whnf
  by_cases h0 : (k : Int) > 0
  · rw [decide_eq_true h0]
    obtain ⟨k, rfl⟩ : ∃ j, k = j + 1 := ⟨k - 1, by omega⟩
    have ek : (((k + 1 : Nat) : Int) - 1).toNat = k := by omega
    repeat' ((conv => whnf); first | refine ngo ?_ | refine VB.tt ?_ | refine VB.ff ?_ | refine VNew.keep ?_ | refine dgo ?_ | refine sgo ?_ | fail)
    conv => whnf
    rw [ek, Nat.mul_one, Nat.zero_add, getInt_limbs]
    refine VB.eq (fun h => ?_) (fun h => ?_)
    · repeat' ((conv => whnf); first | refine ngo ?_ | refine VB.tt ?_ | refine VB.ff ?_ | refine VNew.keep ?_ | refine dgo ?_ | refine sgo ?_ | fail)
      conv => whnf
      refine ⟨k, ⟨by omega, ?_⟩, by simp, ⟨⟨by simp only [lk, ek]; rfl, trivial⟩, rfl, rfl⟩⟩
      rw [val_take_succ (by omega)] at hv
      rw [show l.getD k 0 = 0 by omega] at hv
      omega
    · repeat' ((conv => whnf); first | refine ngo ?_ | refine VB.tt ?_ | refine VB.ff ?_ | refine VNew.keep ?_ | refine dgo ?_ | refine sgo ?_ | fail)
      conv => whnf
      rw [dg_length_of hok hk hv (.inr (by rw [Nat.add_sub_cancel]; omega))]
      exact ⟨(), trivial, ⟨⟨rfl, trivial⟩, rfl, rfl⟩⟩
  · rw [decide_eq_false h0]
    have : k = 0 := by omega
    subst this
    repeat' ((conv => whnf); first | refine ngo ?_ | refine VB.tt ?_ | refine VB.ff ?_ | refine VNew.keep ?_ | refine dgo ?_ | refine sgo ?_ | fail)
    conv => whnf
    rw [dg_length_of hok hk hv (.inl rfl)]
    exact ⟨(), trivial, ⟨⟨rfl, trivial⟩, rfl, rfl⟩⟩

theorem klimbs_c (l : List Nat) (ll : l.length < 1000000) : VCall EE 16 [natL l] [] fun v H => Fz H 0 [] v (natv (sel l)) := by
  refine VCall.of_body true Try.func16 rfl (by decide) rfl ?_
  repeat' ((conv => whnf); first | refine ngo ?_ | refine VB.tt ?_ | refine VB.ff ?_ | refine VNew.keep ?_ | refine dgo ?_ | refine sgo ?_ | fail)
  conv => whnf
  refine VLoop.tr true (fun x : Nat × List Nat => ⟨[(0, natL l), (3, accV x.2), (4, .int .i64 x.1)], accH 30 x.2, []⟩) (fun x => x.1 ≤ l.length ∧ x.2 = (l.take x.1).map (· % BB)) (fun x => l.length - x.1) (0, []) ⟨Nat.zero_le _, rfl⟩ ⟨⟨rfl, rfl, rfl, trivial⟩, rfl, rfl⟩ ?_
  rintro ⟨i, m⟩ ⟨hi, hm⟩
  dsimp only at hi hm ⊢
  repeat' ((conv => whnf); first | refine ngo ?_ | refine VB.tt ?_ | refine VB.ff ?_ | refine VNew.keep ?_ | refine dgo ?_ | refine sgo ?_ | fail)
  conv => whnf
  refine VB.dec (fun h => ?_) (fun h => ?_)
  · have g1 : getInt (List.drop ((i : Int).toNat * 1) (limbs l)) = ((l.getD i 0 : Nat) : Int) := by rw [Int.toNat_natCast, Nat.mul_one, getInt_limbs]
    have hnew : m ++ [l.getD i 0 % BB] = (l.take (i + 1)).map (· % BB) := by
      have e : l.getD i 0 = l[i]'(by omega) := by simp [List.getD_eq_getElem?_getD, show i < l.length by omega]
      rw [hm, List.take_succ_eq_append_getElem (by omega), List.map_append, e]
      rfl
    have hml : m.length < 1000000 := by rw [hm]; simp; omega
    have g6 := tmod_BB (l.getD i 0)
    generalize l.getD i 0 % BB = r at *
    cases m with
    | nil =>
      repeat' ((conv => whnf); first | refine ngo ?_ | refine VB.tt ?_ | refine VB.ff ?_ | refine VNew.keep ?_ | refine dgo ?_ | refine sgo ?_ | fail)
      conv => whnf
      rw [g1, g6]
      repeat' ((conv => whnf); first | refine ngo ?_ | refine VB.tt ?_ | refine VB.ff ?_ | refine VNew.keep ?_ | refine dgo ?_ | refine sgo ?_ | fail)
      conv => whnf
      refine ⟨(i + 1, [r]), ⟨by dsimp only; omega, hnew⟩, by dsimp only; omega, [1], by simp, by simp, ⟨⟨_, rfl, .cells rfl (FzL.same rfl (low_limbs _ [r]))⟩, trivial⟩, ⟨⟨_, rfl, .same rfl (low_natL _ _)⟩, ⟨_, rfl, .kosl (j := 0) rfl rfl rfl rfl⟩, ⟨_, rfl, .same (by simp) trivial⟩, trivial⟩, rfl, by simp⟩
    | cons z m =>
      simp only [List.length_cons] at hml
      repeat' ((conv => whnf); first | refine ngo ?_ | refine VB.tt ?_ | refine VB.ff ?_ | refine VNew.keep ?_ | refine dgo ?_ | refine sgo ?_ | fail)
      conv => whnf
      rw [g1, g6]
      repeat' ((conv => whnf); first | refine ngo ?_ | refine VB.tt ?_ | refine VB.ff ?_ | refine VNew.keep ?_ | refine dgo ?_ | refine sgo ?_ | fail)
      conv => whnf
      refine ⟨(i + 1, z :: m ++ [r]), ⟨by dsimp only; omega, hnew⟩, by dsimp only; omega, [0], by simp, by simp, ⟨⟨_, rfl, .cells (by simp) (FzL.same ?_ (low_limbs _ (z :: m ++ [r])))⟩, trivial⟩, ⟨⟨_, rfl, .same rfl (low_natL _ _)⟩, ⟨_, rfl, .kosl (j := 0) rfl rfl (by simp) (by simp)⟩, ⟨_, rfl, .same (by simp) trivial⟩, trivial⟩, rfl, by simp⟩
      rw [Nat.mul_one, List.take_of_length_le (by simp [limbs])]
      simp [limbs]
  · have : i = l.length := by omega
    subst this
    rw [List.take_length] at hm
    have hok := okL_sel l
    have hsel : sel l = val m := by rw [hm]; rfl
    rw [← hm] at hok
    have hml : m.length < 1000000 := by rw [hm]; simp; omega
    rw [hsel]
    clear hm hsel
    cases m with
    | nil =>
      repeat' ((conv => whnf); first | refine ngo ?_ | refine VB.tt ?_ | refine VB.ff ?_ | refine VNew.keep ?_ | refine dgo ?_ | refine sgo ?_ | fail)
      conv => whnf
      refine VLoop.use klimbs_nil ⟨⟨rfl, trivial⟩, rfl, rfl⟩ ?_
      rintro - -
      repeat' ((conv => whnf); first | refine ngo ?_ | refine VB.tt ?_ | refine VB.ff ?_ | refine VNew.keep ?_ | refine dgo ?_ | refine sgo ?_ | fail)
      conv => whnf
      exact fz_nil0
    | cons z m =>
      repeat' ((conv => whnf); first | refine ngo ?_ | refine VB.tt ?_ | refine VB.ff ?_ | refine VNew.keep ?_ | refine dgo ?_ | refine sgo ?_ | fail)
      conv => whnf
      refine VLoop.use (klimbs_own (ver := m.length) (l := z :: m) hok (by omega)) ⟨⟨rfl, trivial⟩, rfl, rfl⟩ ?_
      rintro - -
      repeat' ((conv => whnf); first | refine ngo ?_ | refine VB.tt ?_ | refine VB.ff ?_ | refine VNew.keep ?_ | refine dgo ?_ | refine sgo ?_ | fail)
      conv => whnf
      exact .nat (Nat.zero_le _) (by simp) rfl (by rw [Nat.mul_one, limbs_take, take_dg hok]) rfl
end Go.Proofs.Ytcdnonggajoghaa
