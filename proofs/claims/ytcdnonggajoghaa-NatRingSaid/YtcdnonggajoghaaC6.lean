/- Contracts: long division, whole. -/
import Derived.Test.YtcdnonggajoghaaC6c
namespace Go.Proofs.Ytcdnonggajoghaa
open Go Go.RowKit
set_option linter.unusedVariables false
set_option linter.unusedSimpArgs false
set_option maxRecDepth 100000

theorem sc_limbs : ∀ (l : List Nat), AV.sc.scL (limbs l)
  | [] => trivial
  | _ :: l => ⟨trivial, sc_limbs l⟩
theorem natv_of {l : List Nat} (h : canon l) : natL l = natv (val l) := by rw [natv, dg_val h]

set_option maxHeartbeats 1000000 in
theorem divide_c {a b : List Nat} (ha : canon a) (hb : canon b) (hb0 : b ≠ []) (la : a.length < 10000000) (lb : b.length < 10000000) :
    VCall EE 32 [natL a, natL b] [] fun v H => Fz H 0 [] v (.tup [natv (val a / val b), natv (val a % val b)]) := by
  have hbl : 0 < b.length := List.length_pos_iff.2 hb0
  refine VCall.of_body true Try.func32 rfl (by decide) rfl ?_
  repeat' ((conv => whnf); first | refine ngo ?_ | refine VB.tt ?_ | refine VB.ff ?_ | refine VNew.keep ?_ | refine dgo ?_ | refine sgo ?_ | fail)
  conv => whnf
  refine VCall.isolate (order_c ha hb (by omega) (by omega)) ⟨low_natL 0 a, low_natL 0 b, trivial⟩ fun v0 H0 hz => ⟨_, .same hz trivial, ?_⟩
  repeat' ((conv => whnf); first | refine ngo ?_ | refine VB.tt ?_ | refine VB.ff ?_ | refine VNew.keep ?_ | refine dgo ?_ | refine sgo ?_ | fail)
  conv => whnf
  refine VB.dec (fun h => ?_) (fun h => ?_)
  · have hlt : val a < val b := by
      unfold cmpN at h
      split at h
      · assumption
      · split at h <;> simp at h
    repeat' ((conv => whnf); first | refine ngo ?_ | refine VB.tt ?_ | refine VB.ff ?_ | refine VNew.keep ?_ | refine dgo ?_ | refine sgo ?_ | fail)
    conv => whnf
    refine VCall.isolate (clone_c a (by omega)) ⟨low_natL 0 a, trivial⟩ fun v0 H0 hz => ⟨_, hz, ?_⟩
    repeat' ((conv => whnf); first | refine ngo ?_ | refine VB.tt ?_ | refine VB.ff ?_ | refine VNew.keep ?_ | refine dgo ?_ | refine sgo ?_ | fail)
    conv => whnf
    rw [Nat.div_eq_of_lt hlt, Nat.mod_eq_of_lt hlt, ← natv_of ha]
    exact .tup (.cons (by rw [natv, dg_zero]; exact .nsl) (.cons (.same rfl (low_natL 0 _)) .nil))
  · have hge : val b ≤ val a := by
      unfold cmpN at h
      split at h
      · exact absurd (show (-1 : Int) < 0 by decide) h
      · omega
    repeat' ((conv => whnf); first | refine ngo ?_ | refine VB.tt ?_ | refine VB.ff ?_ | refine VNew.keep ?_ | refine dgo ?_ | refine sgo ?_ | fail)
    conv => whnf
    refine VB.eq (fun h1 => ?_) (fun h1 => ?_)
    · obtain ⟨d, rfl⟩ : ∃ d, b = [d] := List.length_eq_one_iff.1 (by omega)
      have hd : d < BB := hb.1 d (by simp)
      have hd0 : 0 < d := Nat.pos_of_ne_zero (hb.2 d rfl)
      have hvd : val [d] = d := by simp [val]
      have g1 : getInt (List.drop ((0 : Int).toNat * 1) (limbs [d])) = (d : Int) := rfl
      have hBB : BB = 1000000000 := rfl
      repeat' ((conv => whnf); first | refine ngo ?_ | refine VB.tt ?_ | refine VB.ff ?_ | refine VNew.keep ?_ | refine dgo ?_ | refine sgo ?_ | fail)
      conv => whnf
      rw [g1]
      repeat' ((conv => whnf); first | refine ngo ?_ | refine VB.tt ?_ | refine VB.ff ?_ | refine VNew.keep ?_ | refine dgo ?_ | refine sgo ?_ | fail)
      conv => whnf
      refine VCall.isolate (small_own ha.1 (by omega) hd0 hd) ⟨low_natL 0 a, trivial, trivial⟩ fun v0 H0 hz => ?_
      obtain ⟨l, hl1, hl2, rfl, rfl⟩ := hz
      refine ⟨.tup [natv (val a / d), .int .u64 ((val a % d : Nat) : Int)], .tup (.cons (.nat (Nat.zero_le _) (by simp) rfl (by rw [Nat.mul_one, ← hl2, limbs_take, take_dg hl1]) rfl) (.cons (.same rfl trivial) .nil)), ?_⟩
      repeat' ((conv => whnf); first | refine ngo ?_ | refine VB.tt ?_ | refine VB.ff ?_ | refine VNew.keep ?_ | refine dgo ?_ | refine sgo ?_ | fail)
      conv => whnf
      refine VCall.isolate (of_c (val a % d) (Nat.lt_trans (Nat.mod_lt _ hd0) (by omega))) ⟨trivial, trivial⟩ fun v0 H0 hz => ⟨_, hz, ?_⟩
      repeat' ((conv => whnf); first | refine ngo ?_ | refine VB.tt ?_ | refine VB.ff ?_ | refine VNew.keep ?_ | refine dgo ?_ | refine sgo ?_ | fail)
      conv => whnf
      rw [hvd]
      exact .same rfl ⟨low_natL 0 _, low_natL 0 _, trivial⟩
    · have hn2 : 2 ≤ b.length := by omega
      have hBB : BB = 1000000000 := rfl
      have eb : ((b.length : Int) - 1).toNat = b.length - 1 := by omega
      have hbt := getD_lt hb.1 (b.length - 1)
      have hbt0 : b.getD (b.length - 1) 0 ≠ 0 := hb.2 _ (by rw [List.getLast?_eq_getElem?, List.getD_eq_getElem?_getD, List.getElem?_eq_getElem (by omega)]; rfl)
      have g1 : getInt (List.drop (((b.length : Int) - 1).toNat * 1) (limbs b)) = ((b.getD (b.length - 1) 0 : Nat) : Int) := by rw [eb, Nat.mul_one, getInt_limbs]
      generalize b.getD (b.length - 1) 0 = bt at *
      have hf1 : 1 ≤ BB / (bt + 1) := (Nat.le_div_iff_mul_le (by omega)).2 (by omega)
      have hf2 : BB / (bt + 1) < BB := Nat.div_lt_self (by decide) (by omega)
      have g2 : (1000000000 : Int).tdiv ((bt : Int) + 1) = ((BB / (bt + 1) : Nat) : Int) := rfl
      generalize BB / (bt + 1) = f at *
      repeat' ((conv => whnf); first | refine ngo ?_ | refine VB.tt ?_ | refine VB.ff ?_ | refine VNew.keep ?_ | refine dgo ?_ | refine sgo ?_ | fail)
      conv => whnf
      rw [g1]
      repeat' ((conv => whnf); first | refine ngo ?_ | refine VB.tt ?_ | refine VB.ff ?_ | refine VNew.keep ?_ | refine dgo ?_ | refine sgo ?_ | fail)
      conv => whnf
      rw [g2]
      repeat' ((conv => whnf); first | refine ngo ?_ | refine VB.tt ?_ | refine VB.ff ?_ | refine VNew.keep ?_ | refine dgo ?_ | refine sgo ?_ | fail)
      conv => whnf
      refine VCall.isolate (of_c f (by omega)) ⟨trivial, trivial⟩ fun v0 H0 hz => ⟨_, hz, ?_⟩
      repeat' ((conv => whnf); first | refine ngo ?_ | refine VB.tt ?_ | refine VB.ff ?_ | refine VNew.keep ?_ | refine dgo ?_ | refine sgo ?_ | fail)
      conv => whnf
      have hfl : (dg f).length ≤ 1 := length_dg_lt (by simpa using hf2)
      refine VCall.own (product_own ha.1 (okL_dg f) (by omega) (by omega)) ⟨low_natL 0 a, low_natL 0 _, trivial⟩ fun v0 H0 hz => ?_
      obtain ⟨l, hl1, hl2, rfl, rfl⟩ := hz
      rw [val_dg] at *
      refine ⟨fun o ho => by rw [List.mem_singleton.1 ho]; exact low_limbs 0 l, _, .osl, ?_⟩
      generalize hA : val a * f = A at *
      have hAl : (dg A).length ≤ a.length + 1 := by
        refine length_dg_lt ?_
        rw [← hA, Nat.pow_succ]
        exact Nat.mul_lt_mul'' (val_lt ha.1) hf2
      have hlA : (dg A).length ≤ l.length := by rw [← hl2]; exact dg_length_le hl1
      have hu : List.take ((dg A).length * 1) (limbs l) ++ [AV.int .u32 0, AV.int .u32 0] = limbs (dg A ++ [0, 0]) := by
        rw [Nat.mul_one, limbs_take, ← hl2, take_dg hl1, limbs_append]
        rfl
      repeat' ((conv => whnf); first | refine ngo ?_ | refine VB.tt ?_ | refine VB.ff ?_ | refine VNew.keep ?_ | refine dgo ?_ | refine sgo ?_ | fail)
      conv => whnf
      show VCall EE _ _ [AObj.cells 1 30 (List.take ((dg A).length * 1) (limbs l) ++ [AV.int .u32 0, AV.int .u32 0]), AObj.cells 0 30 [AV.int .u32 0, AV.int .u32 0]] _
      rw [hu]
      refine VCall.isolate (of_c f (by omega)) ⟨trivial, trivial⟩ fun v0 H0 hz => ⟨_, hz, ?_⟩
      repeat' ((conv => whnf); first | refine ngo ?_ | refine VB.tt ?_ | refine VB.ff ?_ | refine VNew.keep ?_ | refine dgo ?_ | refine sgo ?_ | fail)
      conv => whnf
      refine VCall.isolate (product_own hb.1 (okL_dg f) (by omega) (by omega)) ⟨low_natL 0 b, low_natL 0 _, trivial⟩ fun v0 H0 hz => ?_
      obtain ⟨l', hl1', hl2', rfl, rfl⟩ := hz
      rw [val_dg] at *
      obtain ⟨V, hV⟩ : ∃ V, V = val b * f := ⟨_, rfl⟩
      obtain ⟨n, hnn⟩ : ∃ n, n = (dg V).length := ⟨_, rfl⟩
      refine ⟨.dsl (limbs (dg V)) n, by rw [hnn, hV]; exact .nat (Nat.zero_le _) (by simp) rfl (by rw [Nat.mul_one, ← hl2', limbs_take, take_dg hl1']) rfl, ?_⟩
      clear hl1' hl2' hz hu hl1 hl2 hlA
      have hVb : val b ≤ V := by rw [hV]; exact Nat.le_mul_of_pos_right _ hf1
      have hVA : V ≤ A := by rw [hV, ← hA]; exact Nat.mul_le_mul_right _ hge
      have hnb : b.length ≤ n := by have := dg_length_mono hVb; rwa [dg_val hb, ← hnn] at this
      have hnA : n ≤ (dg A).length := by rw [hnn]; exact dg_length_mono hVA
      have hVc := canon_dg V
      have hVv := val_dg V
      have en1 : ((n : Int) - 1).toNat = n - 1 := by omega
      have en2 : ((n : Int) - 2).toNat = n - 2 := by omega
      have hv1 := getD_lt hVc.1 (n - 1)
      have hv2 := getD_lt hVc.1 (n - 2)
      have hv10 : (dg V).getD (n - 1) 0 ≠ 0 := hVc.2 _ (by rw [List.getLast?_eq_getElem?, List.getD_eq_getElem?_getD, ← hnn, List.getElem?_eq_getElem (by omega)]; rfl)
      have g3 : getInt (List.drop (((n : Int) - 1).toNat * 1) (limbs (dg V))) = (((dg V).getD (n - 1) 0 : Nat) : Int) := by rw [en1, Nat.mul_one, getInt_limbs]
      have g4 : getInt (List.drop (((n : Int) - 2).toNat * 1) (limbs (dg V))) = (((dg V).getD (n - 2) 0 : Nat) : Int) := by rw [en2, Nat.mul_one, getInt_limbs]
      have hsp := two_split hnn.symm (by omega)
      rw [hVv] at hsp
      have hv3 : val ((dg V).take (n - 2)) < BB ^ (n - 2) := by
        have := val_lt (hVc.1.take (n - 2))
        rwa [List.length_take, Nat.min_eq_left (by omega)] at this
      generalize hv1e : (dg V).getD (n - 1) 0 = v1 at *
      generalize hv2e : (dg V).getD (n - 2) 0 = v2 at *
      generalize hv3e : val ((dg V).take (n - 2)) = v3 at *
      generalize hnA' : (dg A).length = nA at *
      repeat' ((conv => whnf); first | refine ngo ?_ | refine VB.tt ?_ | refine VB.ff ?_ | refine VNew.keep ?_ | refine dgo ?_ | refine sgo ?_ | fail)
      conv => whnf
      rw [g3]
      repeat' ((conv => whnf); first | refine ngo ?_ | refine VB.tt ?_ | refine VB.ff ?_ | refine VNew.keep ?_ | refine dgo ?_ | refine sgo ?_ | fail)
      conv => whnf
      rw [g4]
      repeat' ((conv => whnf); first | refine ngo ?_ | refine VB.tt ?_ | refine VB.ff ?_ | refine VNew.keep ?_ | refine dgo ?_ | refine sgo ?_ | fail)
      conv => whnf
      clear g1 g2 g3 g4 hz
      obtain ⟨lq, hlq⟩ : ∃ lq, lq + n = nA + 2 := ⟨nA + 2 - n, by omega⟩
      have hP : 0 < BB ^ (n - 2) := Nat.pow_pos (by decide)
      have hVpow : V < BB ^ n := by rw [← hVv, hnn]; exact val_lt hVc.1
      have hV0 : BB ^ (n - 2) ≤ V := by
        have h0 : 0 < v1 * BB := Nat.mul_pos (by omega) (by decide)
        have h1 : 1 * BB ^ (n - 2) ≤ (v1 * BB + v2) * BB ^ (n - 2) := Nat.mul_le_mul_right _ (by omega)
        omega
      have hc : DivC f n nA lq V v1 v2 v3 A := ⟨hf1, hf2, by omega, hnn, hnA, by omega, hlq, hv1, hv10, hv2, hsp, hv3, by omega, hVpow⟩
      refine VLoop.use (digit_loop (u0 := dg A ++ [0, 0]) (q0 := List.replicate lq 0) hc (by simp [hnA']) (okL_append.2 ⟨okL_dg A, by simp [okL]⟩) (by simp) (okL_zeros _) ?_ ?_ ?_) ?_ ?_
      · rw [val_drop (okL_append.2 ⟨okL_dg A, by simp [okL]⟩), val_append, val_dg]
        simp only [val, Nat.mul_zero, Nat.add_zero]
        refine Nat.lt_of_lt_of_le (Nat.div_lt_of_lt_mul ?_) hV0
        rw [← Nat.pow_add, show lq + (n - 2) = nA by omega, ← hnA']
        exact lt_of_length_dg A
      · rw [val_append, val_dg, val_zeros]
        simp [val]
      · intro k hk
        rw [List.getD_eq_getElem?_getD, List.getElem?_replicate]
        split <;> rfl
      · refine ⟨⟨?_, rfl, ?_, rfl, rfl, rfl, rfl, ?_, trivial⟩, ?_, rfl⟩
        · simp [lk]; omega
        · simp [lk]
        · simp [lk]; omega
        · show [_, _, AObj.cells 0 _ (reps _ _)] = _
          rw [show (((nA + 2 : Nat) : Int) - (n : Int)).toNat = lq by omega]
          exact congrArg (fun x => [AObj.cells 1 30 (limbs (dg A ++ [0, 0])), .cells 0 30 [AV.int .u32 0, AV.int .u32 0], AObj.cells 0 30 x]) (limbs_zeros _)
      rintro ⟨u, q⟩ ⟨hul, hu, hql, hq, hud, hval⟩
      dsimp only at hul hu hql hq hud hval ⊢
      have hV0' : 0 < V := hc.hV0
      have hquo : val q = val a / val b := by
        have h1 : A / V = val q := by rw [← hval, Nat.mul_comm, Nat.add_mul_div_right _ _ hV0', Nat.div_eq_of_lt hud, Nat.zero_add]
        rw [← h1, ← hA, hV, Nat.mul_div_mul_right _ _ (by omega)]
      have hrem : val u = val a % val b * f := by
        have h1 : A % V = val u := by rw [← hval, Nat.mul_comm, Nat.add_mul_mod_self_right, Nat.mod_eq_of_lt hud]
        rw [← h1, ← hA, hV, Nat.mul_mod_mul_right]
      repeat' ((conv => whnf); first | refine ngo ?_ | refine VB.tt ?_ | refine VB.ff ?_ | refine VNew.keep ?_ | refine dgo ?_ | refine sgo ?_ | fail)
      conv => whnf
      have ht := trim_own0 (R := [.cells 0 30 [AV.int .u32 0, AV.int .u32 0], .cells 0 30 (limbs q)]) (ver := 1) (e := 30) hu (by omega)
      rw [hul] at ht
      refine ht.mono fun v H' hq' => ?_
      obtain ⟨rfl, rfl⟩ := hq'
      repeat' ((conv => whnf); first | refine ngo ?_ | refine VB.tt ?_ | refine VB.ff ?_ | refine VNew.keep ?_ | refine dgo ?_ | refine sgo ?_ | fail)
      conv => whnf
      have hul2 : (dg (val u)).length ≤ u.length := dg_length_le hu
      refine VCall.lendF (args' := [natL (dg (val u)), .int .u64 f]) (small_own (okL_dg _) (by omega) (by omega) hf2) (.cons (.nat (Nat.zero_le _) (by simp) rfl (by rw [Nat.mul_one, limbs_take, take_dg hu]) rfl) (.cons (.same rfl trivial) .nil)) fun v0 H0 hz => ?_
      obtain ⟨l2, hl1, hl2, rfl, rfl⟩ := hz
      rw [val_dg] at hl2
      rw [val_dg]
      refine ⟨.tup [natv (val u / f), .int .u64 ((val u % f : Nat) : Int)], .two (.osl rfl (by rw [List.drop_zero, Nat.mul_one, ← hl2, limbs_take, take_dg hl1]) (sc_limbs _)) (.sc rfl trivial), ?_⟩
      repeat' ((conv => whnf); first | refine ngo ?_ | refine VB.tt ?_ | refine VB.ff ?_ | refine VNew.keep ?_ | refine dgo ?_ | refine sgo ?_ | fail)
      conv => whnf
      have ht := trim_own2 (x0 := .cells 1 30 (limbs u)) (x1 := .cells 0 30 [AV.int .u32 0, AV.int .u32 0]) (R := []) (ver := 0) (e := 30) hq (by omega)
      rw [hql] at ht
      refine ht.mono fun v H' hq' => ?_
      obtain ⟨rfl, rfl⟩ := hq'
      repeat' ((conv => whnf); first | refine ngo ?_ | refine VB.tt ?_ | refine VB.ff ?_ | refine VNew.keep ?_ | refine dgo ?_ | refine sgo ?_ | fail)
      conv => whnf
      rw [hrem, Nat.mul_div_cancel _ (by omega), ← hquo]
      exact .tup (.cons (.nat (Nat.zero_le _) (by simp) rfl (by rw [Nat.mul_one, limbs_take, take_dg hq]) rfl) (.cons (.same rfl (low_natL 0 _)) .nil))
end Go.Proofs.Ytcdnonggajoghaa
