/- Regions that draw their order and end in writes that no order binds. -/
import Derived.Test.YtcdnonggajoghaaV4
namespace Go.Proofs.Ytcdnonggajoghaa
open Go Go.RowKit
set_option linter.unusedVariables false
set_option linter.unusedSimpArgs false

def scal (Q : AV → Prop) : AV → Prop
  | .int k n => Q (.int k n)
  | .bool b => Q (.bool b)
  | _ => False

def vp (E : Env) (fr : Fr) (Q : AV → Prop) (op : Op) : Prop :=
  match op with
  | .move x => match ev E fr x with
    | some v => v.force Q
    | none => False
  | .assign x => match ev E fr x with
    | some v => v.force Q
    | none => False
  | .binOp op t x y _ => match ev E fr x, ev E fr y with
    | some (.int k a), some (.int k' b) => vint E (scal Q) op t k k' a b
    | _, _ => False
  | .convert src dst x => match ev E fr x, E.un src with
    | some (.int k n), some _ => vconv E true (scal Q) src dst (.int k n)
    | _, _ => False
  | _ => False

def vtake (E : Env) (N : Nat) : List Oper → Fr → (Fr → Prop) → Prop
  | [], fr, K => K fr
  | o :: r, fr, K => match o.guard with
    | none => vp E fr (fun v => vput N fr o.dst v fun fr' => vtake E N r fr' K) o.op
    | some _ => False

def takeB (ops : Array Oper) : Nat → Nat → Array Bool → Bool
  | 0, _, _ => true
  | n + 1, k, listed => (Region.ready .any ops listed).contains k && Region.free .any ops listed k && takeB ops n (k + 1) (listed.setIfInBounds k true)
def setF : Nat → Nat → Array Bool → Array Bool
  | 0, _, l => l
  | n + 1, k, l => setF n (k + 1) (l.setIfInBounds k true)

def vopN (E : Env) (m : Bool) (fr : Fr) (H : Heap) (K : AV → Heap → Prop) (op : Op) (ty : TypeId) : Prop :=
  match op with
  | .store t a x => vopW E fr H K (.store t a x) ty
  | .makeSlice t l c => vopW E fr H K (.makeSlice t l c) ty
  | .call { callee := .builtin .append, args, argTypes } => vopW E fr H K (.call { callee := .builtin .append, args, argTypes }) ty
  | op => vopQ E m fr H (fun v => K v H) op ty

def vall (E : Env) (m : Bool) (N : Nat) (ops : Array Oper) : Nat → Array Bool → Fr → Heap → (Fr → Heap → Prop) → Prop
  | 0, listed, fr, H, K => Region.ready .any ops listed = [] ∧ K fr H
  | g + 1, listed, fr, H, K => Region.ready .any ops listed ≠ [] ∧ ∀ i ∈ Region.ready .any ops listed, ∃ o, ops[i]? = some o ∧
      vgd ops.toList fr o.guard (vopN E m fr H (fun v H' => vput N fr o.dst v fun fr' => vall E m N ops g (listed.setIfInBounds i true) fr' H' K) o.op o.type)
        (vput N fr o.dst (.tup []) fun fr' => vall E m N ops g (listed.setIfInBounds i true) fr' H K)

section
variable {E : Env} {m : Bool} {N : Nat} {rd ro : Option Nat} {fr : Fr} {H : Heap} {K : Conc} {w : World} {a : Act} {ops : Array Oper}

theorem vall.nil {listed : Array Bool} {Kc : Fr → Heap → Prop} (hr : Region.ready .any ops listed = []) (h : Kc fr H) : vall E m N ops 0 listed fr H Kc := ⟨hr, h⟩
theorem vall.one {listed : Array Bool} {g i : Nat} {o : Oper} {Kc : Fr → Heap → Prop} (hr : Region.ready .any ops listed = [i]) (ho : ops[i]? = some o)
    (h : vgd ops.toList fr o.guard (vopN E m fr H (fun v H' => vput N fr o.dst v fun fr' => vall E m N ops g (listed.setIfInBounds i true) fr' H' Kc) o.op o.type)
        (vput N fr o.dst (.tup []) fun fr' => vall E m N ops g (listed.setIfInBounds i true) fr' H Kc)) : vall E m N ops (g + 1) listed fr H Kc := by
  refine ⟨by rw [hr]; simp, fun j hj => ?_⟩
  rw [hr] at hj
  have : j = i := by simpa using hj
  subst this
  exact ⟨o, ho, h⟩
theorem vall.two {listed : Array Bool} {g i i' : Nat} {o o' : Oper} {Kc : Fr → Heap → Prop} (hr : Region.ready .any ops listed = [i, i']) (ho : ops[i]? = some o) (ho' : ops[i']? = some o')
    (h : vgd ops.toList fr o.guard (vopN E m fr H (fun v H' => vput N fr o.dst v fun fr' => vall E m N ops g (listed.setIfInBounds i true) fr' H' Kc) o.op o.type)
        (vput N fr o.dst (.tup []) fun fr' => vall E m N ops g (listed.setIfInBounds i true) fr' H Kc))
    (h' : vgd ops.toList fr o'.guard (vopN E m fr H (fun v H' => vput N fr o'.dst v fun fr' => vall E m N ops g (listed.setIfInBounds i' true) fr' H' Kc) o'.op o'.type)
        (vput N fr o'.dst (.tup []) fun fr' => vall E m N ops g (listed.setIfInBounds i' true) fr' H Kc)) : vall E m N ops (g + 1) listed fr H Kc := by
  refine ⟨by rw [hr]; simp, fun j hj => ?_⟩
  rw [hr] at hj
  rcases List.mem_cons.1 hj with rfl | hj
  · exact ⟨o, ho, h⟩
  · have : j = i' := by simpa using hj
    subst this
    exact ⟨o', ho', h'⟩

theorem scal_sound {Q : AV → Prop} {v : AV} (h : scal Q v) : Q v ∧ ∃ u, ∀ (K : Conc) cv, VR K v cv → cv = u := by
  cases v <;> simp only [scal] at h
  case int k n => exact ⟨h, .int k n, fun K cv hv => hv⟩
  case bool b => exact ⟨h, .bool b, fun K cv hv => hv⟩

theorem vp_ok (hH : HR E K H w) (hF : FR K N fr a.tmps) {Q : AV → Prop} {o : Oper} (h : vp E fr Q o.op) :
    ∃ v cv, Q v ∧ VR K v cv ∧ (∀ w, (execOp a.eval o).run E.P w = .ok (.value cv) w) ∧ ∀ w, o.about E.P w a.eval = none := by
  obtain ⟨dst, op, ty, pos, after, guard⟩ := o
  dsimp only at h
  unfold vp at h
  split at h
  · rename_i x
    split at h
    · rename_i v hv
      exact ⟨v, a.eval x, AV.of_force h, ev_sound hH hF hv, fun w => rfl, fun w => rfl⟩
    · exact h.elim
  · rename_i x
    split at h
    · rename_i v hv
      exact ⟨v, a.eval x, AV.of_force h, ev_sound hH hF hv, fun w => rfl, fun w => rfl⟩
    · exact h.elim
  · rename_i op t x y yt
    split at h
    · rename_i k na k' nb h1 h2
      obtain ⟨v, h3, h4⟩ := vint_ok h
      obtain ⟨hq, u, hu⟩ := scal_sound h4
      have e1 := ev_sound hH hF h1
      have e2 := ev_sound hH hF h2
      simp only [VR] at e1 e2
      have key : ∀ w', ∃ cv, (do eqGuard op t x y (a.eval x) (a.eval y); binOp op t (a.eval x) (a.eval y) : Sem Value).run E.P w' = .ok cv w' ∧ VR K v cv := by
        intro w'
        have := abin_sound (E := E) (K := K) (w := w') (op := op) (t := t) (xo := x) (yo := y) (x := .int k na) (y := .int k' nb) (v := v) (xv := a.eval x) (yv := a.eval y) (by simpa only [VR] using e1) (by simpa only [VR] using e2) (by simp only [abin, h3])
        exact this
      obtain ⟨cv0, _, hv0⟩ := key w
      refine ⟨v, cv0, hq, hv0, fun w' => ?_, fun w => rfl⟩
      obtain ⟨cv, r1, r2⟩ := key w'
      have : cv = cv0 := (hu K cv r2).trans (hu K cv0 hv0).symm
      subst this
      have : (execOp a.eval ⟨dst, .binOp op t x y yt, ty, pos, after, guard⟩).run E.P w' = (do pure (Next.value (← (do eqGuard op t x y (a.eval x) (a.eval y); binOp op t (a.eval x) (a.eval y)))) : Sem Next).run E.P w' := rfl
      rw [this, Sem.run_bind, r1]
      rfl
    · exact h.elim
  · rename_i src dstT x
    split at h
    · rename_i k n d h1 h2
      obtain ⟨v, h3, h4⟩ := vconv_ok h
      obtain ⟨hq, u, hu⟩ := scal_sound h4
      have e1 := ev_sound hH hF h1
      have key : ∀ w', ∃ cv, (convert src dstT (a.eval x)).run E.P w' = .ok cv w' ∧ VR K v cv := fun w' => aconv_sound (E := E) (K := K) (w := w') ⟨_, Env.un_ok h2⟩ e1 h3
      obtain ⟨cv0, _, hv0⟩ := key w
      refine ⟨v, cv0, hq, hv0, fun w' => ?_, fun w => rfl⟩
      obtain ⟨cv, r1, r2⟩ := key w'
      have : cv = cv0 := (hu K cv r2).trans (hu K cv0 hv0).symm
      subst this
      have : (execOp a.eval ⟨dst, .convert src dstT x, ty, pos, after, guard⟩).run E.P w' = (do pure (Next.value (← convert src dstT (a.eval x))) : Sem Next).run E.P w' := rfl
      rw [this, Sem.run_bind, r1]
      rfl
    · exact h.elim
  · exact h.elim

theorem vopN_ok {Kc : AV → Heap → Prop} {op : Op} {ty : TypeId} (h : vopN E m fr H Kc op ty) : ∃ r, aop E fr H op ty = some r ∧ Kc r.1 r.2 := by
  have keyW : ∀ {op : Op}, aopQ E fr H op ty = none → vopW E fr H Kc op ty → ∃ r, aop E fr H op ty = some r ∧ Kc r.1 r.2 := by
    intro op hq hw
    obtain ⟨r, h1, h2⟩ := vopW_ok hw
    exact ⟨r, by simp only [aop, hq, h1], h2⟩
  unfold vopN at h
  split at h
  · exact keyW rfl h
  · exact keyW rfl h
  · refine keyW ?_ h
    simp only [aopQ, abuiltin]
    split <;> rfl
  · obtain ⟨v, h1, h2⟩ := vopQ_ok h
    exact ⟨(v, H), by simp only [aop, h1], h2⟩

def XPost (E : Env) (K : Conc) (N : Nat) (rd ro : Option Nat) (df : List Nat) (Kc : Fr → Heap → Prop) : Exit → Act → World → Prop :=
  fun e a w => e = .normal ∧ ∃ K' fr H, Ext K K' ∧ SR E K' N rd ro ⟨fr, H, df⟩ a w ∧ Kc fr H

theorem vall_ok {K0 : Conc} {df : List Nat} {Kc : Fr → Heap → Prop} : ∀ {g : Nat} {listed : Array Bool} {fr : Fr} {H : Heap} {K : Conc} {a : Act} {w : World}, Ext K0 K → SR E K N rd ro ⟨fr, H, df⟩ a w → vall E m N ops g listed fr H Kc →
    wpAnyIn Fence.wide 0 E.P .any ops (XPost E K0 N rd ro df Kc) g listed a w
  | 0, listed, fr, H, K, a, w, hx, hr, h => ⟨h.1, rfl, K, fr, H, hx, hr, h.2⟩
  | g + 1, listed, fr, H, K, a, w, hx, hr, h => by
    refine ⟨fun h0 => absurd h0 h.1, fun i hi => ?_⟩
    obtain ⟨o, ho, hg⟩ := h.2 i hi
    obtain ⟨t, hgd, h2⟩ := vgd_ok hg
    unfold wpOpIn
    simp only [ho, gd_sound hr.F hgd]
    cases t with
    | true =>
      simp only [if_true] at h2 ⊢
      obtain ⟨r, h3, h4⟩ := vopN_ok h2
      obtain ⟨fr', h5, h6⟩ := vput_ok h4
      obtain ⟨hdef, K', cv, w', nx, x1, x2, x3, x4, x5⟩ := aop_sound hr.H hr.F h3
      have hnext : wpAnyIn Fence.wide 0 E.P .any ops (XPost E K0 N rd ro df Kc) g (listed.setIfInBounds i true) (a.put o.dst cv) w' :=
        vall_ok (hx.trans x1) ⟨x4, putd_sound (hr.F.ext x1) x5 h5, by cases o.dst <;> exact hr.D.ext x1, hr.R.ext x1⟩ h6
      refine ⟨about_wide rfl _, ?_⟩
      rw [show (Fence.wide).round = none from rfl, Oper.semAt_none, x2]
      rcases x3 with rfl | ⟨rfl, rfl⟩
      · exact hnext
      · exact hnext
    | false =>
      simp only [Bool.false_eq_true, if_false] at h2 ⊢
      obtain ⟨fr', h5, h6⟩ := vput_ok h2
      exact ⟨about_wide rfl _, vall_ok (fr := fr') hx ⟨hr.H, putd_sound (v := .tup []) (cv := undef) hr.F (by simp only [VR]; exact ⟨#[], rfl, rfl⟩) h5, by cases o.dst <;> exact hr.D, hr.R⟩ h6⟩

theorem vtake_ok {K0 : Conc} {df : List Nat} {Kc : Fr → Heap → Prop} {Kf : Fr → Prop} {g : Nat} (hs : Region.noSelect ops = true) :
    ∀ {l : List Oper} {k : Nat} {listed : Array Bool} {fr : Fr} {a : Act}, (∀ j, j < l.length → l[j]? = ops[k + j]?) → takeB ops l.length k listed = true → SR E K N rd ro ⟨fr, H, df⟩ a w → vtake E N l fr Kf →
    (∀ fr' a', SR E K N rd ro ⟨fr', H, df⟩ a' w → Kf fr' → wpAnyIn Fence.wide 0 E.P .any ops (XPost E K0 N rd ro df Kc) g (setF l.length k listed) a' w) →
    wpAnyIn Fence.wide 0 E.P .any ops (XPost E K0 N rd ro df Kc) (l.length + g) listed a w
  | [], k, listed, fr, a, hl, hB, hr, h, hk => by
    rw [List.length_nil, Nat.zero_add]
    exact hk fr a hr h
  | o :: l, k, listed, fr, a, hl, hB, hr, h, hk => by
    have h0 : ops[k]? = some o := by simpa using (hl 0 (by simp)).symm
    simp only [List.length_cons, takeB, Bool.and_eq_true] at hB
    simp only [vtake] at h
    split at h
    · rename_i hg
      obtain ⟨v, cv, hq, hv, hrun, hab⟩ := vp_ok hr.H hr.F h
      obtain ⟨fr', h5, h6⟩ := vput_ok hq
      rw [List.length_cons, show l.length + 1 + g = (l.length + g) + 1 by omega]
      refine wpAnyIn_take (F := Fence.wide) (v := cv) rfl h0 hs hB.1.2 hB.1.1 (fun c a w hh => by cases hh.1) ⟨.inl ⟨by simp [Region.wanted, hg], hrun⟩, hab⟩ ?_
      refine vtake_ok hs (fun j hj => by have := hl (j + 1) (by simpa using hj); simpa [Nat.add_assoc, Nat.add_comm 1 j] using this) hB.2
        (fr := fr') ⟨hr.H, putd_sound hr.F hv h5, by cases o.dst <;> exact hr.D, hr.R⟩ h6 hk
    · exact h.elim

theorem wpOpIn_ro (hd : noDefer ops = true) {i : Nat} {Q : Exit → Act → World → Prop} {Kc Kc' : Act → World → Prop} (hK : ∀ a w, Kc a w → Kc' a w) (h : wpOpIn Fence.wide 0 E.P ops Q i Kc a w) : wpOpIn (fence ro) 0 E.P ops Q i Kc' a w := by
  refine wpOpIn_mono hK ?_
  unfold wpOpIn at h ⊢
  split
  · rename_i ho; simp only [ho] at h; exact h
  · rename_i o ho
    simp only [ho] at h
    split
    · rename_i hw
      simp only [hw, if_true] at h
      refine ⟨about_wide rfl _, ?_⟩
      have h2 := h.2
      rw [show (Fence.wide).round = none from rfl, Oper.semAt_none] at h2
      rw [show (fence ro).round = ro from rfl, Oper.semAt_eq ro a.eval o (noDefer_spec hd ho)]
      generalize (execOp a.eval o).run E.P w = r at *
      cases ro with
      | none => exact h2
      | some l =>
        cases r with
        | ok x w' => cases x <;> exact h2
        | halt x w' => cases x <;> exact h2
    · rename_i hw
      simp only [hw] at h
      exact ⟨about_wide rfl _, h.2⟩

theorem wpAnyIn_ro (hd : noDefer ops = true) {Q : Exit → Act → World → Prop} : ∀ {g : Nat} {listed : Array Bool} {a : Act} {w : World}, wpAnyIn Fence.wide 0 E.P .any ops Q g listed a w → wpAnyIn (fence ro) 0 E.P .any ops Q g listed a w
  | 0, _, _, _, h => h
  | g + 1, _, _, _, h => ⟨h.1, fun i hi => wpOpIn_ro hd (fun a w h' => wpAnyIn_ro hd h') (h.2 i hi)⟩

/-- A drawn region: n operations that leave memory alone are taken in order; then every order of the others leads to s0. -/
theorem VDraw.x (m : Bool) (n g : Nat) (s0 : St) {s : St} {id : Nat} {Q : Exit → St → Prop} (hm : E.P.follows .mixedOrders = true) (hs : Region.noSelect ops = true) (hd : noDefer ops = true)
    (hB : takeB ops n 0 (Array.replicate ops.size false) = true) (hn : Nat.beq (n + g) ops.size = true)
    (h : vtake E N (ops.toList.take n) s.fr fun fr => vall E m N ops g (setF n 0 (Array.replicate ops.size false)) fr s.H fun fr H => Meets s0 ⟨fr, H, s.df⟩) (hQ : Q .normal s0) : VDraw E N rd id ops Q s := by
  refine ⟨fun K ro a w hr => ?_⟩
  have hn := Nat.eq_of_beq_eq_true hn
  have hr' : SR E K N rd ro ⟨s.fr, s.H, s.df⟩ a w.drew := ⟨hr.H.drew, hr.F, hr.D, hr.R⟩
  have htl : (ops.toList.take n).length = n := by simp; omega
  have hw := vtake_ok (g := g) (K0 := K) (Kc := fun fr H => Meets s0 ⟨fr, H, s.df⟩) hs (l := ops.toList.take n) (k := 0) (listed := Array.replicate ops.size false)
    (fun j hj => by rw [htl] at hj; simp [hj]) (by rw [htl]; exact hB) hr' h (fun fr' a' hr2 hk => by rw [htl]; exact vall_ok (Ext.refl K) hr2 hk)
  rw [htl, hn] at hw
  have hw2 := wpAnyIn_ro (ro := ro) hd hw
  refine wpIn_mono (wpIn_region_any hm hw2) fun e a' w' q => ?_
  obtain ⟨rfl, K', fr', H', hx, hr2, hme⟩ := q
  refine ⟨K', s0, hx, ⟨?_, hr2.F.sub (vsub_ok hme.fr), ?_, hr2.R⟩, hQ⟩
  · have := hr2.H; rw [show H' = s0.H from hme.H] at this; exact this
  · have := hr2.D; rw [show s.df = s0.df from hme.df] at this; exact this

end

end Go.Proofs.Ytcdnonggajoghaa
