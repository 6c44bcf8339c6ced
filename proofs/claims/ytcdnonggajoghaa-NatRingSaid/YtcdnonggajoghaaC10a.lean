/- Contracts: the reference's quotients, the estimate. -/
import Derived.Test.YtcdnonggajoghaaC9
namespace Go.Proofs.Ytcdnonggajoghaa
open Go Go.RowKit
set_option linter.unusedVariables false
set_option linter.unusedSimpArgs false
set_option maxRecDepth 100000

structure OvC (f n lq A V top : Nat) : Prop where
  hf1 : 1 ≤ f
  hf2 : f < BB
  hn : 1 ≤ n
  hnn : n = (dg V).length
  hn2 : n < 9000000
  hlq2 : lq < 20000000
  hlq : lq + n = (dg A).length + 1
  htop : top < BB
  htop0 : top ≠ 0
  hV : top * BB ^ (n - 1) ≤ V
  hV0 : 0 < V
  hVpow : V < BB ^ n

def oFr (f n lq A V top : Nat) (i : Int) (r : AV) : Fr := [(0, natv A), (1, natv V), (4, .osl 0 0 0 lq 1), (5, r), (6, .dsl (limbs [f]) 1), (7, .int .u64 top), (8, .int .i64 n), (9, .int .i64 i)]

theorem lead_loop {f n lq A V top W : Nat} {i : Int} {H : Heap} (hc : OvC f n lq A V top) (hW : W < V * BB) :
    VLoop EE Try.f34.ntmps none (nthLoop Try.f34 1) (fun e s => e = .exit 2 ∧ ∃ y : Unit, True ∧ Meets ⟨(10, .int .u64 ((W / BB ^ (n - 1) : Nat) : Int)) :: oFr f n lq A V top i (natv W), H, []⟩ s)
      ⟨(10, .int .u64 (0 : Nat)) :: (11, .int .i64 ((dg W).length - 1)) :: oFr f n lq A V top i (natv W), H, []⟩ := by
  have hn := hc.hn
  have hn2 := hc.hn2
  have hnn := hc.hnn
  have hBB : BB = 1000000000 := rfl
  have hBB2 : BB * BB = 1000000000000000000 := rfl
  have hWl : (dg W).length ≤ n + 1 := length_dg_lt (by
    rw [Nat.pow_succ]
    exact Nat.lt_of_lt_of_le hW (Nat.mul_le_mul_right _ (Nat.le_of_lt hc.hVpow)))
  have hok := okL_dg W
  refine VLoop.ix true (fun x : Nat => ⟨(10, .int .u64 ((val ((dg W).drop x) : Nat) : Int)) :: (11, .int .i64 ((x : Int) - 1)) :: oFr f n lq A V top i (natv W), H, []⟩) (fun x => x ≤ (dg W).length ∧ (n - 1 ≤ x ∨ x = (dg W).length)) id (dg W).length ⟨Nat.le_refl _, .inr rfl⟩
    ⟨⟨by simp [lk, val], rfl, rfl, rfl, rfl, rfl, rfl, rfl, rfl, rfl, trivial⟩, rfl, rfl⟩ ?_
  rintro x ⟨hx, hx2⟩
  have hvd := val_drop hok x
  have hvn := val_drop hok (n - 1)
  rw [val_dg] at hvd hvn
  have hlt := val_lt (hok.drop x)
  rw [List.length_drop] at hlt
  have hcons : ∀ y, y < (dg W).length → val ((dg W).drop y) = (dg W).getD y 0 + BB * val ((dg W).drop (y + 1)) := fun y hy => by
    rw [List.drop_eq_getElem_cons hy, val]
    simp [List.getD_eq_getElem?_getD, hy]
  repeat' ((conv => whnf); first | refine ngo ?_ | refine VB.tt ?_ | refine VB.ff ?_ | refine VNew.keep ?_ | refine dgo ?_ | refine sgo ?_ | fail)
  conv => whnf
  refine VB.dec (fun h => ?_) (fun h => ?_)
  · obtain ⟨x, rfl⟩ : ∃ k, x = k + 1 := ⟨x - 1, by omega⟩
    have ex : (((x + 1 : Nat) : Int) - 1).toNat = x := by omega
    have g1 : getInt (List.drop ((((x + 1 : Nat) : Int) - 1).toNat * 1) (limbs (dg W))) = (((dg W).getD x 0 : Nat) : Int) := by rw [ex, Nat.mul_one, getInt_limbs]
    have hxl := getD_lt hok x
    have hcx := hcons x (by omega)
    have hsm : val ((dg W).drop (x + 1)) < BB := by
      refine Nat.lt_of_lt_of_le hlt ?_
      calc BB ^ ((dg W).length - (x + 1)) ≤ BB ^ 1 := Nat.pow_le_pow_right (by decide) (by omega)
        _ = BB := Nat.pow_one _
    generalize val ((dg W).drop (x + 1)) = le at *
    generalize hle' : val ((dg W).drop x) = le' at *
    generalize (dg W).getD x 0 = z at *
    have g0 : (le : Int) * 1000000000 + (z : Int) = (le' : Int) := by rw [hcx, hBB]; omega
    repeat' ((conv => whnf); first | refine ngo ?_ | refine VB.tt ?_ | refine VB.ff ?_ | refine VNew.keep ?_ | refine dgo ?_ | refine sgo ?_ | fail)
    conv => whnf
    rw [g1]
    repeat' ((conv => whnf); first | refine ngo ?_ | refine VB.tt ?_ | refine VB.ff ?_ | refine VNew.keep ?_ | refine dgo ?_ | refine sgo ?_ | fail)
    conv => whnf
    rw [g0]
    repeat' ((conv => whnf); first | refine ngo ?_ | refine VB.tt ?_ | refine VB.ff ?_ | refine VNew.keep ?_ | refine dgo ?_ | refine sgo ?_ | fail)
    conv => whnf
    refine ⟨x, ⟨by omega, .inl (by omega)⟩, by simp, ⟨⟨?_, ?_, rfl, rfl, rfl, rfl, rfl, rfl, rfl, rfl, trivial⟩, rfl, rfl⟩⟩
    · simp [lk, hle']
    · simp [lk]
  · have hfin : val ((dg W).drop x) = W / BB ^ (n - 1) := by
      rcases Nat.lt_or_ge (n - 1) x with h1 | h1
      · omega
      · rcases Nat.eq_or_lt_of_le h1 with h1 | h1
        · rw [hvd, h1]
        · have : x = (dg W).length := by omega
          rw [← hvn, List.drop_eq_nil_of_le (by omega), List.drop_eq_nil_of_le (by omega)]
    repeat' ((conv => whnf); first | refine ngo ?_ | refine VB.tt ?_ | refine VB.ff ?_ | refine VNew.keep ?_ | refine dgo ?_ | refine sgo ?_ | fail)
    conv => whnf
    exact ⟨(), trivial, ⟨⟨by simp only [lk]; rw [hfin]; rfl, rfl, rfl, rfl, rfl, rfl, rfl, rfl, rfl, trivial⟩, rfl, rfl⟩⟩

theorem down_loop {f n lq A V top W d0 : Nat} {i : Int} {H : Heap} (hc : OvC f n lq A V top) (hWl : (dg W).length < 30000000) (hd0 : d0 < BB) (hq0 : W / V ≤ d0) :
    VLoop EE Try.f34.ntmps none (nthLoop Try.f34 2) (fun e s => e = .exit 4 ∧ ∃ y : Heap, (∃ R, y = H ++ R) ∧ Meets ⟨(12, .int .u64 ((W / V : Nat) : Int)) :: oFr f n lq A V top i (natv W), H, []⟩ s)
      ⟨(12, .int .u64 (d0 : Nat)) :: oFr f n lq A V top i (natv W), H, []⟩ := by
  have hn := hc.hn
  have hn2 := hc.hn2
  have hnn := hc.hnn
  have hV0 := hc.hV0
  have hVl : (dg V).length = n := hnn.symm
  have hBB : BB = 1000000000 := rfl
  refine VLoop.ix true (fun d : Nat => ⟨(12, .int .u64 (d : Int)) :: oFr f n lq A V top i (natv W), H, []⟩) (fun d => d < BB ∧ W / V ≤ d) id d0 ⟨hd0, hq0⟩
    ⟨⟨rfl, rfl, rfl, rfl, rfl, rfl, rfl, rfl, rfl, trivial⟩, rfl, rfl⟩ ?_
  rintro d ⟨hd, hq⟩
  have hdl : (dg d).length ≤ 1 := length_dg_lt (by simpa using hd)
  have hVdl : (dg (V * d)).length ≤ n + 1 := length_dg_lt (by
    rw [Nat.pow_succ]
    exact Nat.mul_lt_mul'' hc.hVpow hd)
  repeat' ((conv => whnf); first | refine ngo ?_ | refine VB.tt ?_ | refine VB.ff ?_ | refine VNew.keep ?_ | refine dgo ?_ | refine sgo ?_ | fail)
  conv => whnf
  refine VCall.s (rsmall_c hd) ?_
  repeat' ((conv => whnf); first | refine ngo ?_ | refine VB.tt ?_ | refine VB.ff ?_ | refine VNew.keep ?_ | refine dgo ?_ | refine sgo ?_ | fail)
  conv => whnf
  refine VCall.i (rtimes_n (by omega) (by omega)) ?_
  repeat' ((conv => whnf); first | refine ngo ?_ | refine VB.tt ?_ | refine VB.ff ?_ | refine VNew.keep ?_ | refine dgo ?_ | refine sgo ?_ | fail)
  conv => whnf
  refine VCall.s (rorder_c (canon_dg _) (canon_dg _) (by omega) (by omega)) ?_
  rw [val_dg, val_dg]
  repeat' ((conv => whnf); first | refine ngo ?_ | refine VB.tt ?_ | refine VB.ff ?_ | refine VNew.keep ?_ | refine dgo ?_ | refine sgo ?_ | fail)
  conv => whnf
  refine VB.dec (fun h => ?_) (fun h => ?_)
  · have hgt : W < V * d := by
      unfold cmpN at h
      split at h
      · exact absurd h (by decide)
      · split at h
        · exact absurd h (by decide)
        · omega
    have h1 : 1 ≤ d := Nat.pos_of_ne_zero (by rintro rfl; simp at hgt)
    have h2 : W / V < d := (Nat.div_lt_iff_lt_mul hV0).2 (by rwa [Nat.mul_comm])
    repeat' ((conv => whnf); first | refine ngo ?_ | refine VB.tt ?_ | refine VB.ff ?_ | refine VNew.keep ?_ | refine dgo ?_ | refine sgo ?_ | fail)
    conv => whnf
    exact ⟨d - 1, ⟨by omega, by omega⟩, by simp only [id]; omega, ⟨⟨by simp [lk]; omega, rfl, rfl, rfl, rfl, rfl, rfl, rfl, rfl, trivial⟩, rfl, rfl⟩⟩
  · have hle : V * d ≤ W := by
      unfold cmpN at h
      split at h
      · omega
      · split at h
        · omega
        · exact absurd (by decide) h
    have h2 : d ≤ W / V := (Nat.le_div_iff_mul_le hV0).2 (by rwa [Nat.mul_comm])
    have h3 : d = W / V := by
      generalize W / V = w at *
      omega
    subst h3
    repeat' ((conv => whnf); first | refine ngo ?_ | refine VB.tt ?_ | refine VB.ff ?_ | refine VNew.keep ?_ | refine dgo ?_ | refine sgo ?_ | fail)
    conv => whnf
    exact ⟨H, ⟨[], by simp⟩, ⟨⟨rfl, rfl, rfl, rfl, rfl, rfl, rfl, rfl, rfl, trivial⟩, rfl, rfl⟩⟩
end Go.Proofs.Ytcdnonggajoghaa
