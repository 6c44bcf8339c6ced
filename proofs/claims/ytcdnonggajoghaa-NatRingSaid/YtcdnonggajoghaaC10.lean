/- Contracts: the reference's quotients, whole. -/
import Derived.Test.YtcdnonggajoghaaC10b
namespace Go.Proofs.Ytcdnonggajoghaa
open Go Go.RowKit
set_option linter.unusedVariables false
set_option linter.unusedSimpArgs false
set_option maxRecDepth 100000

/-- The rest divided where it stands. -/
theorem rest_loop {f lq ver : Nat} {q l : List Nat} (hl : okL l) (hf1 : 1 ≤ f) (hf2 : f < BB) (hll : (dg (val l)).length < 100000000) :
    VLoop EE Try.f34.ntmps none (nthLoop Try.f34 3) (fun e s => e = .exit 6 ∧ ∃ y : List Nat, (y.length = l.length ∧ okL y ∧ val (y.take (dg (val l)).length) = val l / f) ∧
      Meets ⟨[(4, .osl 0 0 0 lq 1), (5, .osl 1 ver 0 (dg (val l)).length 1)], [.cells 0 30 (limbs q), .cells ver 30 (limbs y)], []⟩ s)
      ⟨[(4, .osl 0 0 0 lq 1), (5, .osl 1 ver 0 (dg (val l)).length 1), (6, .dsl (limbs [f]) 1), (13, .int .u64 (0 : Nat)), (14, .int .i64 (((dg (val l)).length : Int) - 1))], [.cells 0 30 (limbs q), .cells ver 30 (limbs l)], []⟩ := by
  have hBB : BB = 1000000000 := rfl
  have hk0 : (dg (val l)).length ≤ l.length := dg_length_le hl
  have htk := take_dg hl
  have hvd := val_dg (val l)
  rw [← htk] at hvd
  generalize (dg (val l)).length = k0 at *
  have gf : getInt (List.drop ((0 : Int).toNat * 1) (limbs [f])) = (f : Int) := rfl
  refine VLoop.ix true (fun x : Nat × List Nat × Nat => ⟨[(4, .osl 0 0 0 lq 1), (5, .osl 1 ver 0 k0 1), (6, .dsl (limbs [f]) 1), (13, .int .u64 (x.2.2 : Nat)), (14, .int .i64 ((x.1 : Int) - 1))], [.cells 0 30 (limbs q), .cells ver 30 (limbs x.2.1)], []⟩)
    (fun x => x.1 ≤ k0 ∧ x.2.1.length = l.length ∧ okL x.2.1 ∧ x.2.2 < f ∧ (∀ k, k < x.1 → x.2.1.getD k 0 = l.getD k 0) ∧ val ((x.2.1.take k0).drop x.1) * f + x.2.2 = val ((l.take k0).drop x.1)) (fun x => x.1) (k0, l, 0)
    ⟨Nat.le_refl _, rfl, hl, hf1, fun _ _ => rfl, by dsimp only; rw [List.drop_eq_nil_of_le (by simp; omega)]; simp [val]⟩ ⟨⟨rfl, rfl, rfl, rfl, rfl, trivial⟩, rfl, rfl⟩ ?_
  rintro ⟨i, m, r⟩ ⟨hi, hml, hok, hr, hz, hv⟩
  dsimp only at hi hml hok hr hz hv ⊢
  have hlk : (m.take k0).length = k0 := by rw [List.length_take]; omega
  repeat' ((conv => whnf); first | refine ngo ?_ | refine VB.tt ?_ | refine VB.ff ?_ | refine VNew.keep ?_ | refine dgo ?_ | refine sgo ?_ | fail)
  conv => whnf
  refine VB.dec (fun h => ?_) (fun h => ?_)
  · obtain ⟨i, rfl⟩ : ∃ k, i = k + 1 := ⟨i - 1, by omega⟩
    have ei : (((i + 1 : Nat) : Int) - 1).toNat = i := by omega
    have hx := getD_lt hok i
    have hxl := hz i (by omega)
    have g1 : getInt (List.drop (0 + (((i + 1 : Nat) : Int) - 1).toNat * 1) (limbs m)) = ((m.getD i 0 : Nat) : Int) := by rw [ei, Nat.mul_one, Nat.zero_add, getInt_limbs]
    have hd1 : val ((l.take k0).drop i) = l.getD i 0 + BB * val ((l.take k0).drop (i + 1)) := by
      rw [List.drop_eq_getElem_cons (by rw [List.length_take]; omega), val]
      simp [List.getD_eq_getElem?_getD, show i < l.length by omega]
    have hd2 : ∀ c, val (((m.set i c).take k0).drop i) = c + BB * val ((m.take k0).drop (i + 1)) := fun c => by
      have e1 : (m.set i c).take k0 = (m.take k0).set i c := by rw [List.take_set]
      rw [e1, List.drop_set, if_neg (by omega), Nat.sub_self, List.drop_eq_getElem_cons (by omega), List.set_cons_zero, val]
    rw [← hxl] at hd1
    generalize m.getD i 0 = x at *
    obtain ⟨n, hn⟩ : ∃ n, n = r * BB + x := ⟨_, rfl⟩
    have g0 : (r : Int) * 1000000000 + (x : Int) = (n : Int) := by rw [hn]; simp
    have hnd : n < f * BB := by
      rw [hn]
      have := Nat.mul_le_mul_right BB (show r + 1 ≤ f from hr)
      rw [Nat.add_mul] at this
      omega
    have hnb : n < BB * BB := Nat.lt_of_lt_of_le hnd (Nat.mul_le_mul_right _ (Nat.le_of_lt hf2))
    have hBB2 : BB * BB = 1000000000000000000 := rfl
    have hq : n / f < BB := Nat.div_lt_of_lt_mul hnd
    have hm := Nat.mod_lt n hf1
    have hmd := Nat.mod_add_div n f
    have g5 := tdiv_nat n f
    have g6 := tmod_nat n f
    generalize n / f = q' at *
    generalize n % f = r' at *
    repeat' ((conv => whnf); first | refine ngo ?_ | refine VB.tt ?_ | refine VB.ff ?_ | refine VNew.keep ?_ | refine dgo ?_ | refine sgo ?_ | fail)
    conv => whnf
    rw [g1]
    repeat' ((conv => whnf); first | refine ngo ?_ | refine VB.tt ?_ | refine VB.ff ?_ | refine VNew.keep ?_ | refine dgo ?_ | refine sgo ?_ | fail)
    conv => whnf
    rw [g0]
    repeat' ((conv => whnf); first | refine ngo ?_ | refine VB.tt ?_ | refine VB.ff ?_ | refine VNew.keep ?_ | refine dgo ?_ | refine sgo ?_ | fail)
    conv => whnf
    rw [gf]
    repeat' ((conv => whnf); first | refine ngo ?_ | refine VB.tt ?_ | refine VB.ff ?_ | refine VNew.keep ?_ | refine dgo ?_ | refine sgo ?_ | fail)
    conv => whnf
    rw [g5]
    repeat' ((conv => whnf); first | refine ngo ?_ | refine VB.tt ?_ | refine VB.ff ?_ | refine VNew.keep ?_ | refine dgo ?_ | refine sgo ?_ | fail)
    conv => whnf
    rw [gf]
    repeat' ((conv => whnf); first | refine ngo ?_ | refine VB.tt ?_ | refine VB.ff ?_ | refine VNew.keep ?_ | refine dgo ?_ | refine sgo ?_ | fail)
    conv => whnf
    rw [g6]
    refine ⟨(i, m.set i q', r'), ⟨by dsimp only; omega, by dsimp only; rw [List.length_set]; exact hml, okL_set hok _ hq, hm, ?_, ?_⟩, by dsimp only; omega, ⟨⟨rfl, rfl, rfl, rfl, by simp [lk], trivial⟩, ?_, rfl⟩⟩
    · intro k hk
      dsimp only at hk ⊢
      rw [getD_set_ne' (by omega)]
      exact hz k (by omega)
    · dsimp only
      rw [hd2, hd1, ← hv, Nat.add_mul, Nat.mul_add, Nat.mul_comm q' f, Nat.mul_assoc BB, Nat.mul_comm BB r]
      omega
    · show [_, AObj.cells _ _ (splice _ _ _)] = _
      rw [ei, Nat.zero_add, Nat.mul_one, splice_limbs (by omega)]
  · have : i = 0 := by omega
    subst this
    rw [List.drop_zero, List.drop_zero, hvd] at hv
    repeat' ((conv => whnf); first | refine ngo ?_ | refine VB.tt ?_ | refine VB.ff ?_ | refine VNew.keep ?_ | refine dgo ?_ | refine sgo ?_ | fail)
    conv => whnf
    refine ⟨m, ⟨hml, hok, ?_⟩, ⟨⟨rfl, rfl, trivial⟩, rfl, rfl⟩⟩
    rw [← hv, Nat.mul_comm, Nat.mul_add_div hf1, Nat.div_eq_of_lt hr, Nat.add_zero]

theorem rest_nil {f lq : Nat} {q : List Nat} :
    VLoop EE Try.f34.ntmps none (nthLoop Try.f34 3) (fun e s => e = .exit 6 ∧ ∃ y : Unit, True ∧ Meets ⟨[(4, .osl 0 0 0 lq 1), (5, .nsl)], [.cells 0 30 (limbs q)], []⟩ s)
      ⟨[(4, .osl 0 0 0 lq 1), (5, .nsl), (14, .int .i64 (-1))], [.cells 0 30 (limbs q)], []⟩ := by
  refine VLoop.ix true (fun x : Unit => ⟨[(4, .osl 0 0 0 lq 1), (5, .nsl), (14, .int .i64 (-1))], [.cells 0 30 (limbs q)], []⟩) (fun x => True) (fun x => 0) () trivial ⟨⟨rfl, rfl, rfl, trivial⟩, rfl, rfl⟩ ?_
  rintro x -
  repeat' ((conv => whnf); first | refine ngo ?_ | refine VB.tt ?_ | refine VB.ff ?_ | refine VNew.keep ?_ | refine dgo ?_ | refine sgo ?_ | fail)
  conv => whnf
  exact ⟨(), trivial, ⟨⟨rfl, rfl, trivial⟩, rfl, rfl⟩⟩

theorem dg_one {f : Nat} (h1 : 1 ≤ f) (h2 : f < BB) : natv f = .dsl (limbs [f]) 1 := by
  rw [natv, dg_pos (by omega), Nat.mod_eq_of_lt h2, Nat.div_eq_of_lt h2, dg_zero]
  rfl

set_option maxHeartbeats 2000000 in
theorem over_c {a b : List Nat} (ha : canon a) (hb : canon b) (hb0 : b ≠ []) (la : a.length < 8000000) (lb : b.length < 8000000) :
    VCall EE 34 [natL a, natL b] [] fun v H => Fz H 0 [] v (.tup [natv (val a / val b), natv (val a % val b)]) := by
  have hbl : 0 < b.length := List.length_pos_iff.2 hb0
  refine VCall.of_body true Try.func34 rfl (by decide) rfl ?_
  repeat' ((conv => whnf); first | refine ngo ?_ | refine VB.tt ?_ | refine VB.ff ?_ | refine VNew.keep ?_ | refine dgo ?_ | refine sgo ?_ | fail)
  conv => whnf
  refine VCall.s (rorder_c ha hb (by omega) (by omega)) ?_
  repeat' ((conv => whnf); first | refine ngo ?_ | refine VB.tt ?_ | refine VB.ff ?_ | refine VNew.keep ?_ | refine dgo ?_ | refine sgo ?_ | fail)
  conv => whnf
  refine VB.dec (fun h => ?_) (fun h => ?_)
  · have hlt : val a < val b := by
      unfold cmpN at h
      split at h
      · assumption
      · split at h <;> simp at h
    repeat' ((conv => whnf); first | refine ngo ?_ | refine VB.tt ?_ | refine VB.ff ?_ | refine VNew.keep ?_ | refine dgo ?_ | refine sgo ?_ | fail)
    conv => whnf
    rw [Nat.div_eq_of_lt hlt, Nat.mod_eq_of_lt hlt, ← natv_of ha]
    repeat' (first | exact fz_nil0 | exact Fz.nsl | exact Fz.same rfl (by repeat' (first | exact trivial | exact low_natL 0 _ | exact low_limbs 0 _ | refine And.intro ?_ ?_ | fail)) | refine Fz.tup ?_ | refine FzL.cons ?_ ?_ | exact FzL.nil | fail)
  · have hge : val b ≤ val a := by
      unfold cmpN at h
      split at h
      · exact absurd (show (-1 : Int) < 0 by decide) h
      · omega
    have hb1 : 0 < val b := Nat.lt_of_lt_of_le (Nat.pow_pos (by decide)) (hb.ge hb0)
    have hBB : BB = 1000000000 := rfl
    have eb : ((b.length : Int) - 1).toNat = b.length - 1 := by omega
    have hbt := getD_lt hb.1 (b.length - 1)
    have hbt0 : b.getD (b.length - 1) 0 ≠ 0 := hb.2 _ (by rw [List.getLast?_eq_getElem?, List.getD_eq_getElem?_getD, List.getElem?_eq_getElem (by omega)]; rfl)
    have g1 : getInt (List.drop (((b.length : Int) - 1).toNat * 1) (limbs b)) = ((b.getD (b.length - 1) 0 : Nat) : Int) := by rw [eb, Nat.mul_one, getInt_limbs]
    generalize b.getD (b.length - 1) 0 = bt at *
    have hf1 : 1 ≤ BB / (bt + 1) := (Nat.le_div_iff_mul_le (by omega)).2 (by omega)
    have hf2 : BB / (bt + 1) < BB := Nat.div_lt_self (by decide) (by omega)
    have g2 : (1000000000 : Int).tdiv ((bt : Int) + 1) = ((BB / (bt + 1) : Nat) : Int) := rfl
    generalize BB / (bt + 1) = f at *
    repeat' ((conv => whnf); first | refine ngo ?_ | refine VB.tt ?_ | refine VB.ff ?_ | refine VNew.keep ?_ | refine dgo ?_ | refine sgo ?_ | fail)
    conv => whnf
    rw [g1]
    repeat' ((conv => whnf); first | refine ngo ?_ | refine VB.tt ?_ | refine VB.ff ?_ | refine VNew.keep ?_ | refine dgo ?_ | refine sgo ?_ | fail)
    conv => whnf
    rw [g2]
    repeat' ((conv => whnf); first | refine ngo ?_ | refine VB.tt ?_ | refine VB.ff ?_ | refine VNew.keep ?_ | refine dgo ?_ | refine sgo ?_ | fail)
    conv => whnf
    refine VCall.s (rsmall_c hf2) ?_
    rw [dg_one hf1 hf2]
    have hfv : val [f] = f := by simp [val]
    have hfo : okL [f] := by intro x hx; rw [List.mem_singleton.1 hx]; exact hf2
    repeat' ((conv => whnf); first | refine ngo ?_ | refine VB.tt ?_ | refine VB.ff ?_ | refine VNew.keep ?_ | refine dgo ?_ | refine sgo ?_ | fail)
    conv => whnf
    have ht1 := rtimes_c ha.1 hfo (by omega) (by simp)
    rw [hfv] at ht1
    have ht2 := rtimes_c hb.1 hfo (by omega) (by simp)
    rw [hfv] at ht2
    refine VCall.i (ht1) ?_
    repeat' ((conv => whnf); first | refine ngo ?_ | refine VB.tt ?_ | refine VB.ff ?_ | refine VNew.keep ?_ | refine dgo ?_ | refine sgo ?_ | fail)
    conv => whnf
    refine VCall.i (ht2) ?_
    obtain ⟨A, hA⟩ : ∃ A, A = val a * f := ⟨_, rfl⟩
    obtain ⟨V, hV⟩ : ∃ V, V = val b * f := ⟨_, rfl⟩
    rw [← hA, ← hV]
    obtain ⟨n, hnn⟩ : ∃ n, n = (dg V).length := ⟨_, rfl⟩
    have hAl : (dg A).length ≤ a.length + 1 := by
      refine length_dg_lt ?_
      rw [hA, Nat.pow_succ]
      exact Nat.mul_lt_mul'' (val_lt ha.1) hf2
    have hVb : val b ≤ V := by rw [hV]; exact Nat.le_mul_of_pos_right _ hf1
    have hVA : V ≤ A := by rw [hV, hA]; exact Nat.mul_le_mul_right _ hge
    have hnb : b.length ≤ n := by have := dg_length_mono hVb; rwa [dg_val hb, ← hnn] at this
    have hnA : n ≤ (dg A).length := by rw [hnn]; exact dg_length_mono hVA
    have hVl : n ≤ b.length + 1 := by
      rw [hnn]
      refine length_dg_lt ?_
      rw [hV, Nat.pow_succ]
      exact Nat.mul_lt_mul'' (val_lt hb.1) hf2
    have hVc := canon_dg V
    have hVv := val_dg V
    have en1 : (((dg V).length : Int) - 1).toNat = n - 1 := by omega
    have hv1 := getD_lt hVc.1 (n - 1)
    have hv10 : (dg V).getD (n - 1) 0 ≠ 0 := hVc.2 _ (by rw [List.getLast?_eq_getElem?, List.getD_eq_getElem?_getD, ← hnn, List.getElem?_eq_getElem (by omega)]; rfl)
    have g3 : getInt (List.drop ((((dg V).length : Int) - 1).toNat * 1) (limbs (dg V))) = (((dg V).getD (n - 1) 0 : Nat) : Int) := by rw [en1, Nat.mul_one, getInt_limbs]
    have htp : (dg V).getD (n - 1) 0 * BB ^ (n - 1) ≤ V := by
      have h1 := val_take_succ (l := dg V) (i := n - 1) (by omega)
      rw [show n - 1 + 1 = n by omega, List.take_of_length_le (by omega), hVv, Nat.mul_comm (BB ^ (n - 1))] at h1
      omega
    have htp2 : BB ^ (n - 1) ≤ V := Nat.le_trans (Nat.le_mul_of_pos_left _ (Nat.pos_of_ne_zero hv10)) htp
    generalize (dg V).getD (n - 1) 0 = top at *
    repeat' ((conv => whnf); first | refine ngo ?_ | refine VB.tt ?_ | refine VB.ff ?_ | refine VNew.keep ?_ | refine dgo ?_ | refine sgo ?_ | fail)
    conv => whnf
    rw [g3]
    repeat' ((conv => whnf); first | refine ngo ?_ | refine VB.tt ?_ | refine VB.ff ?_ | refine VNew.keep ?_ | refine dgo ?_ | refine sgo ?_ | fail)
    conv => whnf
    obtain ⟨lq, hlq⟩ : ∃ lq, lq + n = (dg A).length + 1 := ⟨(dg A).length + 1 - n, by omega⟩
    have hVpow : V < BB ^ n := by rw [← hVv, hnn]; exact val_lt hVc.1
    have hc : OvC f n lq A V top := ⟨hf1, hf2, by omega, hnn, by omega, by omega, hlq, hv1, hv10, htp, by omega, hVpow⟩
    refine VDraw.xt true [0, 1, 2, 3, 4, 6, 7, 8, 9, 10, 11, 12, 13] 4 ⟨[(0, natv A), (1, natv V), (4, .osl 0 0 0 lq 1), (5, natL ((dg A).drop lq)), (6, .dsl (limbs [f]) 1), (7, .int .u64 top), (8, .int .i64 (dg V).length)], [.cells 0 30 (limbs (List.replicate lq 0))], []⟩ (fun b hb => nomatch hb) mixed (by kernel_rfl) (by kernel_rfl) (by kernel_rfl) (by kernel_rfl) ?_ ?_
    · have er0 : List.take (((dg A).length - ((((dg A).length : Int) - ((dg V).length : Int) + 1).toNat)) * 1) (List.drop ((((dg A).length : Int) - ((dg V).length : Int) + 1).toNat * 1) (limbs (dg A))) = limbs ((dg A).drop lq) := by
        rw [show (((dg A).length : Int) - ((dg V).length : Int) + 1).toNat = lq by omega, Nat.mul_one, Nat.mul_one, limbs_drop, limbs_take, List.take_of_length_le (by simp)]
      have er1 : (dg A).length - (((dg A).length : Int) - ((dg V).length : Int) + 1).toNat = ((dg A).drop lq).length := by
        rw [List.length_drop]; omega
      have erl : ((dg A).drop lq).length = n - 1 := by rw [List.length_drop]; omega
      have eq0 : reps (((dg A).length : Int) - ((dg V).length : Int) + 1).toNat [AV.int .u32 0] = limbs (List.replicate lq 0) := by
        rw [show (((dg A).length : Int) - ((dg V).length : Int) + 1).toNat = lq by omega]; exact limbs_zeros _
      repeat' ((conv => whnf); first | refine ngo ?_ | refine VB.tt ?_ | refine VB.ff ?_ | refine VNew.keep ?_ | refine dgo ?_ | refine sgo ?_ | fail)
      conv => whnf
      refine vall.s2 (i := 5) (i' := 14) (by kernel_rfl) (by rfl) (by rfl) ?_ ?_
      · repeat' ((conv => whnf); first | refine ngo ?_ | refine VB.tt ?_ | refine VB.ff ?_ | refine VNew.keep ?_ | refine dgo ?_ | refine sgo ?_ | fail)
        conv => whnf
        refine vall.s1 (i := 14) (by kernel_rfl) (by rfl) ?_
        repeat' ((conv => whnf); first | refine ngo ?_ | refine VB.tt ?_ | refine VB.ff ?_ | refine VNew.keep ?_ | refine dgo ?_ | refine sgo ?_ | fail)
        conv => whnf
        rw [er0, er1]
        generalize (dg A).drop lq = r0 at *
        cases r0 with
        | nil =>
          repeat' ((conv => whnf); first | refine ngo ?_ | refine VB.tt ?_ | refine VB.ff ?_ | refine VNew.keep ?_ | refine dgo ?_ | refine sgo ?_ | fail)
          conv => whnf
          refine vall.s1 (i := 15) (by kernel_rfl) (by rfl) ?_
          repeat' ((conv => whnf); first | refine ngo ?_ | refine VB.tt ?_ | refine VB.ff ?_ | refine VNew.keep ?_ | refine dgo ?_ | refine sgo ?_ | fail)
          conv => whnf
          refine vall.s1 (i := 16) (by kernel_rfl) (by rfl) ?_
          repeat' ((conv => whnf); first | refine ngo ?_ | refine VB.tt ?_ | refine VB.ff ?_ | refine VNew.keep ?_ | refine dgo ?_ | refine sgo ?_ | fail)
          conv => whnf
          refine ⟨[0], by simp, by simp, ⟨⟨_, rfl, .cells rfl (FzL.same eq0 (low_limbs _ _))⟩, trivial⟩, ⟨⟨_, rfl, .same rfl (low_natL _ _)⟩, ⟨_, rfl, .same rfl (low_natL _ _)⟩, ⟨_, rfl, .kosl (j := 0) rfl rfl rfl (by omega)⟩, ⟨_, rfl, .nsl⟩, ⟨_, rfl, .same rfl (low_limbs _ [f])⟩, ⟨_, rfl, .same rfl trivial⟩, ⟨_, rfl, .same rfl trivial⟩, trivial⟩, rfl, by simp⟩
        | cons x r0 =>
          repeat' ((conv => whnf); first | refine ngo ?_ | refine VB.tt ?_ | refine VB.ff ?_ | refine VNew.keep ?_ | refine dgo ?_ | refine sgo ?_ | fail)
          conv => whnf
          refine vall.s1 (i := 15) (by kernel_rfl) (by rfl) ?_
          repeat' ((conv => whnf); first | refine ngo ?_ | refine VB.tt ?_ | refine VB.ff ?_ | refine VNew.keep ?_ | refine dgo ?_ | refine sgo ?_ | fail)
          conv => whnf
          refine vall.s1 (i := 16) (by kernel_rfl) (by rfl) ?_
          repeat' ((conv => whnf); first | refine ngo ?_ | refine VB.tt ?_ | refine VB.ff ?_ | refine VNew.keep ?_ | refine dgo ?_ | refine sgo ?_ | fail)
          conv => whnf
          refine ⟨[0], by simp, by simp, ⟨⟨_, rfl, .cells rfl (FzL.same eq0 (low_limbs _ _))⟩, trivial⟩, ⟨⟨_, rfl, .same rfl (low_natL _ _)⟩, ⟨_, rfl, .same rfl (low_natL _ _)⟩, ⟨_, rfl, .kosl (j := 0) rfl rfl rfl (by omega)⟩, ⟨_, rfl, Fz.nat (Nat.zero_le _) (by simp) rfl (by rw [Nat.mul_one]; exact List.take_of_length_le (by simp [limbs])) rfl⟩, ⟨_, rfl, .same rfl (low_limbs _ [f])⟩, ⟨_, rfl, .same rfl trivial⟩, ⟨_, rfl, .same rfl trivial⟩, trivial⟩, rfl, by simp⟩
      · repeat' ((conv => whnf); first | refine ngo ?_ | refine VB.tt ?_ | refine VB.ff ?_ | refine VNew.keep ?_ | refine dgo ?_ | refine sgo ?_ | fail)
        conv => whnf
        rw [er0, er1]
        generalize (dg A).drop lq = r0 at *
        cases r0 with
        | nil =>
          repeat' ((conv => whnf); first | refine ngo ?_ | refine VB.tt ?_ | refine VB.ff ?_ | refine VNew.keep ?_ | refine dgo ?_ | refine sgo ?_ | fail)
          conv => whnf
          refine vall.s1 (i := 5) (by kernel_rfl) (by rfl) ?_
          repeat' ((conv => whnf); first | refine ngo ?_ | refine VB.tt ?_ | refine VB.ff ?_ | refine VNew.keep ?_ | refine dgo ?_ | refine sgo ?_ | fail)
          conv => whnf
          refine vall.s1 (i := 15) (by kernel_rfl) (by rfl) ?_
          repeat' ((conv => whnf); first | refine ngo ?_ | refine VB.tt ?_ | refine VB.ff ?_ | refine VNew.keep ?_ | refine dgo ?_ | refine sgo ?_ | fail)
          conv => whnf
          refine vall.s1 (i := 16) (by kernel_rfl) (by rfl) ?_
          repeat' ((conv => whnf); first | refine ngo ?_ | refine VB.tt ?_ | refine VB.ff ?_ | refine VNew.keep ?_ | refine dgo ?_ | refine sgo ?_ | fail)
          conv => whnf
          refine ⟨[0], by simp, by simp, ⟨⟨_, rfl, .cells rfl (FzL.same eq0 (low_limbs _ _))⟩, trivial⟩, ⟨⟨_, rfl, .same rfl (low_natL _ _)⟩, ⟨_, rfl, .same rfl (low_natL _ _)⟩, ⟨_, rfl, .kosl (j := 0) rfl rfl rfl (by omega)⟩, ⟨_, rfl, .nsl⟩, ⟨_, rfl, .same rfl (low_limbs _ [f])⟩, ⟨_, rfl, .same rfl trivial⟩, ⟨_, rfl, .same rfl trivial⟩, trivial⟩, rfl, by simp⟩
        | cons x r0 =>
          repeat' ((conv => whnf); first | refine ngo ?_ | refine VB.tt ?_ | refine VB.ff ?_ | refine VNew.keep ?_ | refine dgo ?_ | refine sgo ?_ | fail)
          conv => whnf
          refine vall.s1 (i := 5) (by kernel_rfl) (by rfl) ?_
          repeat' ((conv => whnf); first | refine ngo ?_ | refine VB.tt ?_ | refine VB.ff ?_ | refine VNew.keep ?_ | refine dgo ?_ | refine sgo ?_ | fail)
          conv => whnf
          refine vall.s1 (i := 15) (by kernel_rfl) (by rfl) ?_
          repeat' ((conv => whnf); first | refine ngo ?_ | refine VB.tt ?_ | refine VB.ff ?_ | refine VNew.keep ?_ | refine dgo ?_ | refine sgo ?_ | fail)
          conv => whnf
          refine vall.s1 (i := 16) (by kernel_rfl) (by rfl) ?_
          repeat' ((conv => whnf); first | refine ngo ?_ | refine VB.tt ?_ | refine VB.ff ?_ | refine VNew.keep ?_ | refine dgo ?_ | refine sgo ?_ | fail)
          conv => whnf
          refine ⟨[1], by simp, by simp, ⟨⟨_, rfl, .cells rfl (FzL.same eq0 (low_limbs _ _))⟩, trivial⟩, ⟨⟨_, rfl, .same rfl (low_natL _ _)⟩, ⟨_, rfl, .same rfl (low_natL _ _)⟩, ⟨_, rfl, .kosl (j := 0) rfl rfl rfl (by omega)⟩, ⟨_, rfl, Fz.nat (Nat.zero_le _) (by simp) rfl (by rw [Nat.mul_one]; exact List.take_of_length_le (by simp [limbs])) rfl⟩, ⟨_, rfl, .same rfl (low_limbs _ [f])⟩, ⟨_, rfl, .same rfl trivial⟩, ⟨_, rfl, .same rfl trivial⟩, trivial⟩, rfl, by simp⟩
    · repeat' ((conv => whnf); first | refine ngo ?_ | refine VB.tt ?_ | refine VB.ff ?_ | refine VNew.keep ?_ | refine dgo ?_ | refine sgo ?_ | fail)
      conv => whnf
      have hro := okL_dg A
      refine VLoop.use (over_loop (q0 := List.replicate lq 0) (r0 := (dg A).drop lq) hc (by omega) (by simp) (okL_zeros _) (fun k => by rw [List.getD_eq_getElem?_getD, List.getElem?_replicate]; split <;> rfl) (hro.drop _) (by rw [val_drop hro, val_dg]) (by rw [List.length_drop]; omega) ?_) ⟨⟨rfl, rfl, rfl, rfl, rfl, rfl, by rw [hnn]; rfl, ?_, trivial⟩, rfl, rfl⟩ ?_
      · refine Nat.lt_of_lt_of_le (val_lt (hro.drop _)) (Nat.le_trans ?_ htp2)
        rw [List.length_drop]
        exact Nat.pow_le_pow_right (by decide) (by omega)
      · simp [lk]; omega
      rintro ⟨q, rl⟩ ⟨hql, hq, hrl, hrV, hAe⟩
      dsimp only at hql hq hrl hrV hAe ⊢
      have hquo : val q = val a / val b := by
        have h1 : A / V = val q := by rw [hAe, Nat.mul_add_div hc.hV0, Nat.div_eq_of_lt hrV, Nat.add_zero]
        rw [← h1, hA, hV, Nat.mul_div_mul_right _ _ (by omega)]
      have hrem : val rl / f = val a % val b := by
        have h1 : A % V = val rl := by rw [hAe, Nat.mul_add_mod, Nat.mod_eq_of_lt hrV]
        rw [← h1, hA, hV, Nat.mul_mod_mul_right, Nat.mul_div_cancel _ (by omega)]
      have hrk : (dg (val rl)).length ≤ n := by rw [hnn]; exact dg_length_mono (Nat.le_of_lt hrV)
      have hkl : (dg (val rl)).length ≤ rl.length := dg_length_le hrl
      cases rl with
      | nil =>
        repeat' ((conv => whnf); first | refine ngo ?_ | refine VB.tt ?_ | refine VB.ff ?_ | refine VNew.keep ?_ | refine dgo ?_ | refine sgo ?_ | fail)
        conv => whnf
        refine VLoop.use (rest_nil (f := f)) ⟨⟨rfl, rfl, rfl, trivial⟩, rfl, rfl⟩ ?_
        rintro - -
        repeat' ((conv => whnf); first | refine ngo ?_ | refine VB.tt ?_ | refine VB.ff ?_ | refine VNew.keep ?_ | refine dgo ?_ | refine sgo ?_ | fail)
        conv => whnf
        have ht := rtrim_own (H := [.cells 0 30 (limbs q)]) (b := 0) (ver := 0) (e := 30) (l := q) (k0 := lq) rfl hq (by omega) (by omega)
        refine ht.mono fun v H' hq' => ?_
        obtain ⟨rfl, rfl⟩ := hq'
        repeat' ((conv => whnf); first | refine ngo ?_ | refine VB.tt ?_ | refine VB.ff ?_ | refine VNew.keep ?_ | refine dgo ?_ | refine sgo ?_ | fail)
        conv => whnf
        refine rtrim_nil.mono fun v H' hq' => ?_
        obtain ⟨rfl, rfl⟩ := hq'
        repeat' ((conv => whnf); first | refine ngo ?_ | refine VB.tt ?_ | refine VB.ff ?_ | refine VNew.keep ?_ | refine dgo ?_ | refine sgo ?_ | fail)
        conv => whnf
        have h0 : val a % val b = 0 := by rw [← hrem]; simp [val]
        rw [h0, List.take_of_length_le (by omega), ← hquo]
        exact .tup (.cons (.nat (Nat.zero_le _) (by simp) rfl (by rw [Nat.mul_one, limbs_take, take_dg hq]) rfl) (.cons fz_nil0 .nil))
      | cons x rl =>
        repeat' ((conv => whnf); first | refine ngo ?_ | refine VB.tt ?_ | refine VB.ff ?_ | refine VNew.keep ?_ | refine dgo ?_ | refine sgo ?_ | fail)
        conv => whnf
        refine VLoop.use (rest_loop (lq := lq) (ver := rl.length) (q := q) hrl hf1 hf2 (by omega)) ⟨⟨rfl, rfl, rfl, rfl, rfl, trivial⟩, rfl, rfl⟩ ?_
        rintro y ⟨hyl, hy, hyv⟩
        repeat' ((conv => whnf); first | refine ngo ?_ | refine VB.tt ?_ | refine VB.ff ?_ | refine VNew.keep ?_ | refine dgo ?_ | refine sgo ?_ | fail)
        conv => whnf
        have ht := rtrim_own (H := [.cells 0 30 (limbs q), .cells rl.length 30 (limbs y)]) (b := 0) (ver := 0) (e := 30) (l := q) (k0 := lq) rfl hq (by omega) (by omega)
        refine ht.mono fun v H' hq' => ?_
        obtain ⟨rfl, rfl⟩ := hq'
        repeat' ((conv => whnf); first | refine ngo ?_ | refine VB.tt ?_ | refine VB.ff ?_ | refine VNew.keep ?_ | refine dgo ?_ | refine sgo ?_ | fail)
        conv => whnf
        have ht := rtrim_own (H := [.cells 0 30 (limbs q), .cells rl.length 30 (limbs y)]) (b := 1) (ver := rl.length) (e := 30) (l := y) (k0 := (dg (val (x :: rl))).length) rfl hy (by omega) (by omega)
        rw [hyv] at ht
        refine ht.mono fun v H' hq' => ?_
        obtain ⟨rfl, rfl⟩ := hq'
        have hytk := take_dg (hy.take (dg (val (x :: rl))).length)
        rw [hyv, List.take_take, Nat.min_eq_left (by rw [← hyv]; have := dg_length_le (hy.take (dg (val (x :: rl))).length); simp at this; omega)] at hytk
        repeat' ((conv => whnf); first | refine ngo ?_ | refine VB.tt ?_ | refine VB.ff ?_ | refine VNew.keep ?_ | refine dgo ?_ | refine sgo ?_ | fail)
        conv => whnf
        rw [← hrem, List.take_of_length_le (by omega), ← hquo]
        exact .tup (.cons (.nat (Nat.zero_le _) (by simp) rfl (by rw [Nat.mul_one, limbs_take, take_dg hq]) rfl) (.cons (.nat (Nat.zero_le _) (by simp) rfl (by rw [Nat.mul_one, limbs_take, hytk]) rfl) .nil))
end Go.Proofs.Ytcdnonggajoghaa
