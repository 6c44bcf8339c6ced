/- Loops whose rounds leave blocks behind. -/
import Derived.Test.YtcdnonggajoghaaV2
namespace Go.Proofs.Ytcdnonggajoghaa
open Go Go.RowKit
set_option linter.unusedVariables false
set_option linter.unusedSimpArgs false

def FzFr (H : Heap) (n : Nat) (σ : List Nat) : Fr → Fr → Prop
  | [], _ => True
  | (k, v') :: r, fr => (∃ v, lk fr k = some v ∧ Fz H n σ v v') ∧ FzFr H n σ r fr
inductive FzO (H : Heap) (n : Nat) (σ : List Nat) : AObj → AObj → Prop
  | cells {ver ver' : Nat} {e : TypeId} {cs cs' : List AV} (ev : ver = ver') (h : FzL H n σ cs cs') : FzO H n σ (.cells ver e cs) (.cells ver' e cs')
  | dfr : FzO H n σ .dfr .dfr
  | gone : FzO H n σ .gone .gone
  | loop {st : LoopState} {pend : Option Code} {fr fr' : Fr} {N : Nat} {ps : Array Tmp} {asg body : Code} {d : Nat} (hfr : FzFr H n σ fr' fr) (hd : d < n) : FzO H n σ (.loop st pend fr N ps asg body d) (.loop st pend fr' N ps asg body d)
def FzHp (H : Heap) (n : Nat) (σ : List Nat) : List Nat → Heap → Prop
  | [], [] => True
  | b :: bs, o' :: r => (∃ o, H[b]? = some o ∧ FzO H n σ o o') ∧ FzHp H n σ bs r
  | _, _ => False

structure Trunc (n : Nat) (σ : List Nat) (s s' : St) : Prop where
  nod : σ.Nodup
  above : ∀ b ∈ σ, n ≤ b
  H : FzHp s.H n σ (List.range n ++ σ) s'.H
  fr : FzFr s.H n σ s'.fr s.fr
  df : s'.df = s.df
  dfn : ∀ d ∈ s.df, d < n

theorem FzHp.length {H : Heap} {n : Nat} {σ : List Nat} : ∀ {l : List Nat} {H' : Heap}, FzHp H n σ l H' → H'.length = l.length
  | [], [], _ => rfl
  | _ :: _, _ :: _, h => by simp [FzHp.length h.2]
  | [], _ :: _, h => h.elim
  | _ :: _, [], h => h.elim
theorem FzHp.get {H : Heap} {n : Nat} {σ : List Nat} : ∀ {l : List Nat} {H' : Heap}, FzHp H n σ l H' → ∀ (j b : Nat), l[j]? = some b → ∃ o o', H[b]? = some o ∧ H'[j]? = some o' ∧ FzO H n σ o o'
  | [], [], _, j, b, e => by simp at e
  | b0 :: bs, o' :: r, h, j, b, e => by
    cases j with
    | zero =>
      simp at e
      subst e
      obtain ⟨o, h1, h2⟩ := h.1
      exact ⟨o, o', h1, rfl, h2⟩
    | succ j =>
      obtain ⟨o, o2, h1, h2, h3⟩ := FzHp.get h.2 j b (by simpa using e)
      exact ⟨o, o2, h1, by simpa using h2, h3⟩
  | [], _ :: _, h, j, b, e => h.elim
  | _ :: _, [], h, j, b, e => h.elim

section
variable {E : Env} {K K' : Conc} {H : Heap} {w : World} {n N : Nat} {σ : List Nat} {s s' : St} {rd ro : Option Nat} {a : Act} {Q : Exit → St → Prop}

theorem FzFr.sound (hH : HR E K H w) (hk : FzOK K K' w n σ) {fr : Fr} {t : Array Value} (hF : FR K N fr t) : ∀ {fr' : Fr}, FzFr H n σ fr' fr → ∀ k v, lk fr' k = some v → VR K' v (t.getD k undef)
  | [], _, k, v, e => by cases e
  | (k0, v0) :: r, h, k, v, e => by
    simp only [lk] at e
    split at e
    · rename_i hk0
      subst hk0
      cases e
      obtain ⟨u, h1, h2⟩ := h.1
      exact h2.sound hH hk (hF.2 _ u h1)
    · exact FzFr.sound hH hk hF h.2 k v e

open Classical in
noncomputable def Conc.cut (K : Conc) (n : Nat) (σ : List Nat) (w : World) : Conc :=
  ⟨fun c o => match K.imm c o with
    | some v => some v
    | none => if ∃ b i, n ≤ b ∧ b ∉ σ ∧ K.blk[b]? = some i ∧ i.c = c then w.cell? ⟨c, o, none⟩ else none,
   (List.range n ++ σ).map fun b => (K.blk[b]?).getD ⟨0, 0, 0⟩, K.B, K.w0⟩

theorem SR.cut (hr : SR E K N rd ro s a w) (hrd : ∀ b, rd = some b → b < n) (ht : Trunc n σ s s') : ∃ K', SR E K' N rd ro s' a w ∧ ∀ K0, Ext K0 K → K0.blk.length ≤ n → Ext K0 K' := by
  have hH := hr.H
  have hlen := ht.H.length
  have hidx : ∀ (j b : Nat), (List.range n ++ σ)[j]? = some b → ∃ o o' i, s.H[b]? = some o ∧ s'.H[j]? = some o' ∧ FzO s.H n σ o o' ∧ K.blk[b]? = some i ∧ OR K o i w := by
    intro j b e
    obtain ⟨o, o', h1, h2, h3⟩ := ht.H.get j b e
    obtain ⟨i, h4, h5⟩ := hH.info h1
    exact ⟨o, o', i, h1, h2, h3, h4, h5⟩
  have hnd : (List.range n ++ σ).Nodup := by
    rw [List.nodup_append]
    refine ⟨List.nodup_range, ht.nod, fun x hx y hy hxy => ?_⟩
    have h1 := List.mem_range.1 hx
    have h2 := ht.above y hy
    omega
  have get : ∀ (j : Nat) (i : BI), (K.cut n σ w).blk[j]? = some i → ∃ b, (List.range n ++ σ)[j]? = some b ∧ K.blk[b]? = some i := by
    intro j i e
    simp only [Conc.cut, List.getElem?_map] at e
    obtain ⟨b, h1, h2⟩ := Option.map_eq_some_iff.1 e
    obtain ⟨_, _, i', _, _, _, h3, _⟩ := hidx j b h1
    rw [h3] at h2
    simp at h2
    subst h2
    exact ⟨b, h1, h3⟩
  have put : ∀ (j b : Nat) (i : BI), (List.range n ++ σ)[j]? = some b → K.blk[b]? = some i → (K.cut n σ w).blk[j]? = some i := by
    intro j b i e e'
    simp only [Conc.cut, List.getElem?_map, e, Option.map_some, e', Option.getD_some]
  have lowix : ∀ b, b < n → (List.range n ++ σ)[b]? = some b := fun b hb => by
    rw [List.getElem?_append_left (by simpa using hb), List.getElem?_range hb]
  have highix : ∀ (j b : Nat), σ[j]? = some b → (List.range n ++ σ)[n + j]? = some b := fun j b hj => by
    rw [List.getElem?_append_right (by simp), List.length_range, Nat.add_sub_cancel_left, hj]
  have imm1 : ∀ c o v, K.imm c o = some v → (K.cut n σ w).imm c o = some v := fun c o v h => by simp [Conc.cut, h]
  have hk : FzOK K (K.cut n σ w) w n σ := by
    refine ⟨imm1, fun b i hb e => put b b i (lowix b hb) e, fun j b i hj e => put (n + j) b i (highix j b hj) e, fun b i o v hn hs e hc => ?_⟩
    simp only [Conc.cut]
    split
    · rename_i u hu
      rw [hH.imm _ _ _ hu] at hc
      exact hc
    · rw [if_pos ⟨b, i, hn, hs, e, rfl⟩]
      exact hc
  refine ⟨K.cut n σ w, ⟨⟨?_, fun j o' i e e' => ?_, fun j i e => ?_, fun j j' i i' e e' he => ?_, fun j i o ob eo ek e => ?_, fun c o v e => ?_, hH.below, hH.hB, fun g cs e => ?_⟩, ⟨hr.F.1, FzFr.sound hH hk hr.F ht.fr⟩, ?_, ?_⟩, fun K0 hx hl => ?_⟩
  · simp [Conc.cut, hlen]
  · obtain ⟨b, h1, h2⟩ := get j i e'
    obtain ⟨o, o2, i2, g1, g2, g3, g4, g5⟩ := hidx j b h1
    have : o2 = o' := Option.some.inj (g2.symm.trans e)
    subst this
    have : i2 = i := Option.some.inj (g4.symm.trans h2)
    subst this
    cases g3 with
    | cells hev hc =>
      subst hev
      obtain ⟨x1, arr, x2, x3, x4, x5, x6⟩ := g5
      have hl := (hc.sound hH hk x6).length
      have hl' := x6.length
      simp only [List.length_take] at hl hl'
      refine ⟨x1, arr, x2, x3, by rw [hc.all]; exact x4, by omega, ?_⟩
      have := hc.sound hH hk x6
      rename_i cs cs'
      have e2 : cs'.length = cs.length := by omega
      rw [e2]
      exact this
    | dfr => exact g5
    | gone => exact g5
    | loop hfr hd =>
      obtain ⟨x1, f, tmps, dc, x2, x3, jd, x4, x5⟩ := g5
      exact ⟨x1, f, tmps, dc, x2, ⟨x3.1, FzFr.sound hH hk x3 hfr⟩, jd, hk.blk _ _ hd x4, x5⟩
  · obtain ⟨b, h1, h2⟩ := get j i e
    exact hH.low b i h2
  · obtain ⟨b, h1, h2⟩ := get j i e
    obtain ⟨b', h1', h2'⟩ := get j' i' e'
    have hb := hH.inj b b' i i' h2 h2' he
    subst hb
    have hj := (List.getElem?_eq_some_iff.1 h1).1
    exact (List.getElem?_inj hj hnd).1 (h1.trans h1'.symm)
  · obtain ⟨b, h1, h2⟩ := get j i e
    obtain ⟨o1, o2, i2, g1, g2, g3, _, _⟩ := hidx j b h1
    have : o2 = ob := Option.some.inj (g2.symm.trans eo)
    subst this
    have hk1 : o1.kept = true := by cases g3 <;> first | rfl | exact ek
    have h3 := hH.off b i o o1 g1 hk1 h2
    simp only [Conc.cut, h3]
    rw [if_neg]
    rintro ⟨b', i', hn, hs, hb', hc⟩
    have : b' = b := hH.inj b' b i' i hb' h2 hc
    subst this
    have hm : b' ∈ List.range n ++ σ := List.mem_of_getElem? h1
    rcases List.mem_append.1 hm with hm | hm
    · have := List.mem_range.1 hm; omega
    · exact hs hm
  · simp only [Conc.cut] at e
    split at e
    · rename_i u hu; cases e; exact hH.imm c o _ hu
    · split at e
      · exact e
      · cases e
  · exact CR.move (n := 0) imm1 (fun b i hb => absurd hb (Nat.not_lt_zero _)) cs g 0 (E.G_low g cs e) (hH.glob g cs e)
  · rw [ht.df]
    have key : ∀ {ds : List Nat} {l : List Deferred}, (∀ d ∈ ds, d < n) → DR K ds l → DR (K.cut n σ w) ds l := by
      intro ds
      induction ds with
      | nil => intro l _ h; exact h
      | cons d ds ih =>
        intro l hd h
        obtain ⟨x, r, h1, ⟨i, h2, h3⟩, h4⟩ := h
        exact ⟨x, r, h1, ⟨i, hk.blk d i (hd d (List.mem_cons_self ..)) h2, h3⟩, ih (fun d hd' => hd d (List.mem_cons_of_mem _ hd')) h4⟩
    exact key ht.dfn hr.D
  · have hR := hr.R
    cases rd with
    | none => exact hR
    | some b =>
      obtain ⟨i, h1, h2, h3⟩ := hR
      exact ⟨i, hk.blk b i (hrd b rfl) h1, h2, h3⟩
  · refine ⟨fun c o v e => imm1 c o v (hx.imm c o v e), ?_, fun b i e => ?_, hx.hB, hx.hw, fun c o v e => ?_⟩
    · simp only [Conc.cut, List.length_map, List.length_append, List.length_range]; omega
    · obtain ⟨i', h1, h2, h3⟩ := hx.blk b i e
      have hb : b < n := Nat.lt_of_lt_of_le (List.getElem?_eq_some_iff.1 e).1 hl
      exact ⟨i', hk.blk b i' hb h1, h2, h3⟩
    · simp only [Conc.cut] at e
      split at e
      · rename_i u hu; cases e; exact hx.new c o _ hu
      · split at e
        · rename_i hex
          obtain ⟨b, i, _, _, hb, rfl⟩ := hex
          have := hH.low b i hb
          rw [hx.hB] at this
          exact .inr this
        · cases e

/-- A loop whose rounds leave blocks behind: what lies from n on is kept (σ) or becomes data. -/
theorem VLoop.tr {c : Code} {ι : Type} (m : Bool) (st : ι → St) (inv : ι → Prop) (μ : ι → Nat) (x0 : ι) (h0 : inv x0) (hm : Meets (st x0) s)
    (round : ∀ x, inv x → vcode E m N rd c (Then (fun s2 => ∃ y, inv y ∧ μ y < μ x ∧ ∃ σ, Trunc s.H.length σ s2 (st y)) Q) (st x)) : VLoop E N rd c Q s := by
  refine ⟨fun K ro a w hr => ?_⟩
  have hrd : ∀ b, rd = some b → b < s.H.length := by
    rintro b rfl
    obtain ⟨i, h1, _⟩ := hr.R
    rw [← hr.H.len]
    exact (List.getElem?_eq_some_iff.1 h1).1
  have e : st x0 = ⟨(st x0).fr, s.H, s.df⟩ := by rw [hm.H, hm.df]
  refine wpIn_loop_ix (fun j a w => ∃ K' x, Ext K K' ∧ SR E K' N rd ro (st x) a w ∧ inv x ∧ μ x = j) (n0 := μ x0) ⟨K, x0, Ext.refl K, by rw [e]; exact ⟨hr.H, hr.F.sub (vsub_ok hm.fr), hr.D, hr.R⟩, h0, rfl⟩ ?_
  rintro j a w ⟨K', x, hx, hr', hI, rfl⟩
  refine wpIn_mono (vcode_ok (round x hI) K' ro a w hr') fun e a' w' q => ?_
  obtain ⟨K2, s2, hx2, hr2, hq⟩ := q
  cases e with
  | normal =>
    obtain ⟨y, hy, hlt, σ, ht⟩ := hq
    obtain ⟨K3, hr3, hx3⟩ := hr2.cut hrd ht
    exact ⟨μ y, hlt, K3, y, hx3 K (hx.trans hx2) (by rw [hr.H.len]; exact Nat.le_refl _), hr3, hy, rfl⟩
  | _ => exact ⟨K2, s2, hx.trans hx2, hr2, hq⟩

end

end Go.Proofs.Ytcdnonggajoghaa
