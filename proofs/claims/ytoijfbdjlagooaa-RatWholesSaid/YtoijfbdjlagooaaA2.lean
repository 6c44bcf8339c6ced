/- The program logic and the contracts that a law leans on, part 2. -/
import Derived.Test.YtoijfbdjlagooaaA1
import Derived.Test.YtoijfbdjlagooaaProg
/- Regions that draw their order and end in writes that no order binds. -/
namespace Go.Proofs.Ytoijfbdjlagooaa
open Go Go.RowKit
set_option linter.unusedVariables false
set_option linter.unusedSimpArgs false

def scal (Q : AV → Prop) : AV → Prop
  | .int k n => Q (.int k n)
  | .bool b => Q (.bool b)
  | _ => False

def vp (E : Env) (fr : Fr) (Q : AV → Prop) (op : Op) : Prop :=
  match op with
  | .move x => match ev E fr x with
    | some v => v.force Q
    | none => False
  | .assign x => match ev E fr x with
    | some v => v.force Q
    | none => False
  | .binOp op t x y _ => match ev E fr x, ev E fr y with
    | some (.int k a), some (.int k' b) => vint E (scal Q) op t k k' a b
    | _, _ => False
  | .convert src dst x => match ev E fr x, E.un src with
    | some (.int k n), some _ => vconv E true (scal Q) src dst (.int k n)
    | _, _ => False
  | _ => False

def vtake (E : Env) (N : Nat) : List Oper → Fr → (Fr → Prop) → Prop
  | [], fr, K => K fr
  | o :: r, fr, K => match o.guard with
    | none => vp E fr (fun v => vput N fr o.dst v fun fr' => vtake E N r fr' K) o.op
    | some _ => False

def takeB (ops : Array Oper) : Nat → Nat → Array Bool → Bool
  | 0, _, _ => true
  | n + 1, k, listed => (Region.ready .any ops listed).contains k && Region.free .any ops listed k && takeB ops n (k + 1) (listed.setIfInBounds k true)
def setF : Nat → Nat → Array Bool → Array Bool
  | 0, _, l => l
  | n + 1, k, l => setF n (k + 1) (l.setIfInBounds k true)

def vopN (E : Env) (m : Bool) (fr : Fr) (H : Heap) (K : AV → Heap → Prop) (op : Op) (ty : TypeId) : Prop :=
  match op with
  | .store t a x => vopW E fr H K (.store t a x) ty
  | .makeSlice t l c => vopW E fr H K (.makeSlice t l c) ty
  | .call { callee := .builtin .append, args, argTypes } => vopW E fr H K (.call { callee := .builtin .append, args, argTypes }) ty
  | op => vopQ E m fr H (fun v => K v H) op ty

def vall (E : Env) (m : Bool) (N : Nat) (ops : Array Oper) : Nat → Array Bool → Fr → Heap → (Fr → Heap → Prop) → Prop
  | 0, listed, fr, H, K => Region.ready .any ops listed = [] ∧ K fr H
  | g + 1, listed, fr, H, K => Region.ready .any ops listed ≠ [] ∧ ∀ i ∈ Region.ready .any ops listed, ∃ o, ops[i]? = some o ∧
      vgd ops.toList fr o.guard (vopN E m fr H (fun v H' => vput N fr o.dst v fun fr' => vall E m N ops g (listed.setIfInBounds i true) fr' H' K) o.op o.type)
        (vput N fr o.dst (.tup []) fun fr' => vall E m N ops g (listed.setIfInBounds i true) fr' H K)

section
variable {E : Env} {m : Bool} {N : Nat} {rd ro : Option Nat} {fr : Fr} {H : Heap} {K : Conc} {w : World} {a : Act} {ops : Array Oper}

theorem vall.nil {listed : Array Bool} {Kc : Fr → Heap → Prop} (hr : Region.ready .any ops listed = []) (h : Kc fr H) : vall E m N ops 0 listed fr H Kc := ⟨hr, h⟩
theorem vall.one {listed : Array Bool} {g i : Nat} {o : Oper} {Kc : Fr → Heap → Prop} (hr : Region.ready .any ops listed = [i]) (ho : ops[i]? = some o)
    (h : vgd ops.toList fr o.guard (vopN E m fr H (fun v H' => vput N fr o.dst v fun fr' => vall E m N ops g (listed.setIfInBounds i true) fr' H' Kc) o.op o.type)
        (vput N fr o.dst (.tup []) fun fr' => vall E m N ops g (listed.setIfInBounds i true) fr' H Kc)) : vall E m N ops (g + 1) listed fr H Kc := by
  refine ⟨by rw [hr]; simp, fun j hj => ?_⟩
  rw [hr] at hj
  have : j = i := by simpa using hj
  subst this
  exact ⟨o, ho, h⟩
theorem vall.two {listed : Array Bool} {g i i' : Nat} {o o' : Oper} {Kc : Fr → Heap → Prop} (hr : Region.ready .any ops listed = [i, i']) (ho : ops[i]? = some o) (ho' : ops[i']? = some o')
    (h : vgd ops.toList fr o.guard (vopN E m fr H (fun v H' => vput N fr o.dst v fun fr' => vall E m N ops g (listed.setIfInBounds i true) fr' H' Kc) o.op o.type)
        (vput N fr o.dst (.tup []) fun fr' => vall E m N ops g (listed.setIfInBounds i true) fr' H Kc))
    (h' : vgd ops.toList fr o'.guard (vopN E m fr H (fun v H' => vput N fr o'.dst v fun fr' => vall E m N ops g (listed.setIfInBounds i' true) fr' H' Kc) o'.op o'.type)
        (vput N fr o'.dst (.tup []) fun fr' => vall E m N ops g (listed.setIfInBounds i' true) fr' H Kc)) : vall E m N ops (g + 1) listed fr H Kc := by
  refine ⟨by rw [hr]; simp, fun j hj => ?_⟩
  rw [hr] at hj
  rcases List.mem_cons.1 hj with rfl | hj
  · exact ⟨o, ho, h⟩
  · have : j = i' := by simpa using hj
    subst this
    exact ⟨o', ho', h'⟩

theorem scal_sound {Q : AV → Prop} {v : AV} (h : scal Q v) : Q v ∧ ∃ u, ∀ (K : Conc) cv, VR K v cv → cv = u := by
  cases v <;> simp only [scal] at h
  case int k n => exact ⟨h, .int k n, fun K cv hv => hv⟩
  case bool b => exact ⟨h, .bool b, fun K cv hv => hv⟩

theorem vp_ok (hH : HR E K H w) (hF : FR K N fr a.tmps) {Q : AV → Prop} {o : Oper} (h : vp E fr Q o.op) :
    ∃ v cv, Q v ∧ VR K v cv ∧ (∀ w, (execOp a.eval o).run E.P w = .ok (.value cv) w) ∧ ∀ w, o.about E.P w a.eval = none := by
  obtain ⟨dst, op, ty, pos, after, guard⟩ := o
  dsimp only at h
  unfold vp at h
  split at h
  · rename_i x
    split at h
    · rename_i v hv
      exact ⟨v, a.eval x, AV.of_force h, ev_sound hH hF hv, fun w => rfl, fun w => rfl⟩
    · exact h.elim
  · rename_i x
    split at h
    · rename_i v hv
      exact ⟨v, a.eval x, AV.of_force h, ev_sound hH hF hv, fun w => rfl, fun w => rfl⟩
    · exact h.elim
  · rename_i op t x y yt
    split at h
    · rename_i k na k' nb h1 h2
      obtain ⟨v, h3, h4⟩ := vint_ok h
      obtain ⟨hq, u, hu⟩ := scal_sound h4
      have e1 := ev_sound hH hF h1
      have e2 := ev_sound hH hF h2
      simp only [VR] at e1 e2
      have key : ∀ w', ∃ cv, (do eqGuard op t x y (a.eval x) (a.eval y); binOp op t (a.eval x) (a.eval y) : Sem Value).run E.P w' = .ok cv w' ∧ VR K v cv := by
        intro w'
        have := abin_sound (E := E) (K := K) (w := w') (op := op) (t := t) (xo := x) (yo := y) (x := .int k na) (y := .int k' nb) (v := v) (xv := a.eval x) (yv := a.eval y) (by simpa only [VR] using e1) (by simpa only [VR] using e2) (by simp only [abin, h3])
        exact this
      obtain ⟨cv0, _, hv0⟩ := key w
      refine ⟨v, cv0, hq, hv0, fun w' => ?_, fun w => rfl⟩
      obtain ⟨cv, r1, r2⟩ := key w'
      have : cv = cv0 := (hu K cv r2).trans (hu K cv0 hv0).symm
      subst this
      have : (execOp a.eval ⟨dst, .binOp op t x y yt, ty, pos, after, guard⟩).run E.P w' = (do pure (Next.value (← (do eqGuard op t x y (a.eval x) (a.eval y); binOp op t (a.eval x) (a.eval y)))) : Sem Next).run E.P w' := rfl
      rw [this, Sem.run_bind, r1]
      rfl
    · exact h.elim
  · rename_i src dstT x
    split at h
    · rename_i k n d h1 h2
      obtain ⟨v, h3, h4⟩ := vconv_ok h
      obtain ⟨hq, u, hu⟩ := scal_sound h4
      have e1 := ev_sound hH hF h1
      have key : ∀ w', ∃ cv, (convert src dstT (a.eval x)).run E.P w' = .ok cv w' ∧ VR K v cv := fun w' => aconv_sound (E := E) (K := K) (w := w') ⟨_, Env.un_ok h2⟩ e1 h3
      obtain ⟨cv0, _, hv0⟩ := key w
      refine ⟨v, cv0, hq, hv0, fun w' => ?_, fun w => rfl⟩
      obtain ⟨cv, r1, r2⟩ := key w'
      have : cv = cv0 := (hu K cv r2).trans (hu K cv0 hv0).symm
      subst this
      have : (execOp a.eval ⟨dst, .convert src dstT x, ty, pos, after, guard⟩).run E.P w' = (do pure (Next.value (← convert src dstT (a.eval x))) : Sem Next).run E.P w' := rfl
      rw [this, Sem.run_bind, r1]
      rfl
    · exact h.elim
  · exact h.elim

theorem vopN_ok {Kc : AV → Heap → Prop} {op : Op} {ty : TypeId} (h : vopN E m fr H Kc op ty) : ∃ r, aop E fr H op ty = some r ∧ Kc r.1 r.2 := by
  have keyW : ∀ {op : Op}, aopQ E fr H op ty = none → vopW E fr H Kc op ty → ∃ r, aop E fr H op ty = some r ∧ Kc r.1 r.2 := by
    intro op hq hw
    obtain ⟨r, h1, h2⟩ := vopW_ok hw
    exact ⟨r, by simp only [aop, hq, h1], h2⟩
  unfold vopN at h
  split at h
  · exact keyW rfl h
  · exact keyW rfl h
  · refine keyW ?_ h
    simp only [aopQ, abuiltin]
    split <;> rfl
  · obtain ⟨v, h1, h2⟩ := vopQ_ok h
    exact ⟨(v, H), by simp only [aop, h1], h2⟩

def XPost (E : Env) (K : Conc) (N : Nat) (rd ro : Option Nat) (df : List Nat) (Kc : Fr → Heap → Prop) : Exit → Act → World → Prop :=
  fun e a w => e = .normal ∧ ∃ K' fr H, Ext K K' ∧ SR E K' N rd ro ⟨fr, H, df⟩ a w ∧ Kc fr H

theorem vall_ok {K0 : Conc} {df : List Nat} {Kc : Fr → Heap → Prop} : ∀ {g : Nat} {listed : Array Bool} {fr : Fr} {H : Heap} {K : Conc} {a : Act} {w : World}, Ext K0 K → SR E K N rd ro ⟨fr, H, df⟩ a w → vall E m N ops g listed fr H Kc →
    wpAnyIn Fence.wide 0 E.P .any ops (XPost E K0 N rd ro df Kc) g listed a w
  | 0, listed, fr, H, K, a, w, hx, hr, h => ⟨h.1, rfl, K, fr, H, hx, hr, h.2⟩
  | g + 1, listed, fr, H, K, a, w, hx, hr, h => by
    refine ⟨fun h0 => absurd h0 h.1, fun i hi => ?_⟩
    obtain ⟨o, ho, hg⟩ := h.2 i hi
    obtain ⟨t, hgd, h2⟩ := vgd_ok hg
    unfold wpOpIn
    simp only [ho, gd_sound hr.F hgd]
    cases t with
    | true =>
      simp only [if_true] at h2 ⊢
      obtain ⟨r, h3, h4⟩ := vopN_ok h2
      obtain ⟨fr', h5, h6⟩ := vput_ok h4
      obtain ⟨hdef, K', cv, w', nx, x1, x2, x3, x4, x5⟩ := aop_sound hr.H hr.F h3
      have hnext : wpAnyIn Fence.wide 0 E.P .any ops (XPost E K0 N rd ro df Kc) g (listed.setIfInBounds i true) (a.put o.dst cv) w' :=
        vall_ok (hx.trans x1) ⟨x4, putd_sound (hr.F.ext x1) x5 h5, by cases o.dst <;> exact hr.D.ext x1, hr.R.ext x1⟩ h6
      refine ⟨about_wide rfl _, ?_⟩
      rw [show (Fence.wide).round = none from rfl, Oper.semAt_none, x2]
      rcases x3 with rfl | ⟨rfl, rfl⟩
      · exact hnext
      · exact hnext
    | false =>
      simp only [Bool.false_eq_true, if_false] at h2 ⊢
      obtain ⟨fr', h5, h6⟩ := vput_ok h2
      exact ⟨about_wide rfl _, vall_ok (fr := fr') hx ⟨hr.H, putd_sound (v := .tup []) (cv := undef) hr.F (by simp only [VR]; exact ⟨#[], rfl, rfl⟩) h5, by cases o.dst <;> exact hr.D, hr.R⟩ h6⟩

theorem vtake_ok {K0 : Conc} {df : List Nat} {Kc : Fr → Heap → Prop} {Kf : Fr → Prop} {g : Nat} (hs : Region.noSelect ops = true) :
    ∀ {l : List Oper} {k : Nat} {listed : Array Bool} {fr : Fr} {a : Act}, (∀ j, j < l.length → l[j]? = ops[k + j]?) → takeB ops l.length k listed = true → SR E K N rd ro ⟨fr, H, df⟩ a w → vtake E N l fr Kf →
    (∀ fr' a', SR E K N rd ro ⟨fr', H, df⟩ a' w → Kf fr' → wpAnyIn Fence.wide 0 E.P .any ops (XPost E K0 N rd ro df Kc) g (setF l.length k listed) a' w) →
    wpAnyIn Fence.wide 0 E.P .any ops (XPost E K0 N rd ro df Kc) (l.length + g) listed a w
  | [], k, listed, fr, a, hl, hB, hr, h, hk => by
    rw [List.length_nil, Nat.zero_add]
    exact hk fr a hr h
  | o :: l, k, listed, fr, a, hl, hB, hr, h, hk => by
    have h0 : ops[k]? = some o := by simpa using (hl 0 (by simp)).symm
    simp only [List.length_cons, takeB, Bool.and_eq_true] at hB
    simp only [vtake] at h
    split at h
    · rename_i hg
      obtain ⟨v, cv, hq, hv, hrun, hab⟩ := vp_ok hr.H hr.F h
      obtain ⟨fr', h5, h6⟩ := vput_ok hq
      rw [List.length_cons, show l.length + 1 + g = (l.length + g) + 1 by omega]
      refine wpAnyIn_take (F := Fence.wide) (v := cv) rfl h0 hs hB.1.2 hB.1.1 (fun c a w hh => by cases hh.1) ⟨.inl ⟨by simp [Region.wanted, hg], hrun⟩, hab⟩ ?_
      refine vtake_ok hs (fun j hj => by have := hl (j + 1) (by simpa using hj); simpa [Nat.add_assoc, Nat.add_comm 1 j] using this) hB.2
        (fr := fr') ⟨hr.H, putd_sound hr.F hv h5, by cases o.dst <;> exact hr.D, hr.R⟩ h6 hk
    · exact h.elim

theorem wpOpIn_ro (hd : noDefer ops = true) {i : Nat} {Q : Exit → Act → World → Prop} {Kc Kc' : Act → World → Prop} (hK : ∀ a w, Kc a w → Kc' a w) (h : wpOpIn Fence.wide 0 E.P ops Q i Kc a w) : wpOpIn (fence ro) 0 E.P ops Q i Kc' a w := by
  refine wpOpIn_mono hK ?_
  unfold wpOpIn at h ⊢
  split
  · rename_i ho; simp only [ho] at h; exact h
  · rename_i o ho
    simp only [ho] at h
    split
    · rename_i hw
      simp only [hw, if_true] at h
      refine ⟨about_wide rfl _, ?_⟩
      have h2 := h.2
      rw [show (Fence.wide).round = none from rfl, Oper.semAt_none] at h2
      rw [show (fence ro).round = ro from rfl, Oper.semAt_eq ro a.eval o (noDefer_spec hd ho)]
      generalize (execOp a.eval o).run E.P w = r at *
      cases ro with
      | none => exact h2
      | some l =>
        cases r with
        | ok x w' => cases x <;> exact h2
        | halt x w' => cases x <;> exact h2
    · rename_i hw
      simp only [hw] at h
      exact ⟨about_wide rfl _, h.2⟩

theorem wpAnyIn_ro (hd : noDefer ops = true) {Q : Exit → Act → World → Prop} : ∀ {g : Nat} {listed : Array Bool} {a : Act} {w : World}, wpAnyIn Fence.wide 0 E.P .any ops Q g listed a w → wpAnyIn (fence ro) 0 E.P .any ops Q g listed a w
  | 0, _, _, _, h => h
  | g + 1, _, _, _, h => ⟨h.1, fun i hi => wpOpIn_ro hd (fun a w h' => wpAnyIn_ro hd h') (h.2 i hi)⟩

/-- A drawn region: n operations that leave memory alone are taken in order; then every order of the others leads to s0. -/
theorem VDraw.x (m : Bool) (n g : Nat) (s0 : St) {s : St} {id : Nat} {Q : Exit → St → Prop} (hm : E.P.follows .mixedOrders = true) (hs : Region.noSelect ops = true) (hd : noDefer ops = true)
    (hB : takeB ops n 0 (Array.replicate ops.size false) = true) (hn : Nat.beq (n + g) ops.size = true)
    (h : vtake E N (ops.toList.take n) s.fr fun fr => vall E m N ops g (setF n 0 (Array.replicate ops.size false)) fr s.H fun fr H => Meets s0 ⟨fr, H, s.df⟩) (hQ : Q .normal s0) : VDraw E N rd id ops Q s := by
  refine ⟨fun K ro a w hr => ?_⟩
  have hn := Nat.eq_of_beq_eq_true hn
  have hr' : SR E K N rd ro ⟨s.fr, s.H, s.df⟩ a w.drew := ⟨hr.H.drew, hr.F, hr.D, hr.R⟩
  have htl : (ops.toList.take n).length = n := by simp; omega
  have hw := vtake_ok (g := g) (K0 := K) (Kc := fun fr H => Meets s0 ⟨fr, H, s.df⟩) hs (l := ops.toList.take n) (k := 0) (listed := Array.replicate ops.size false)
    (fun j hj => by rw [htl] at hj; simp [hj]) (by rw [htl]; exact hB) hr' h (fun fr' a' hr2 hk => by rw [htl]; exact vall_ok (Ext.refl K) hr2 hk)
  rw [htl, hn] at hw
  have hw2 := wpAnyIn_ro (ro := ro) hd hw
  refine wpIn_mono (wpIn_region_any hm hw2) fun e a' w' q => ?_
  obtain ⟨rfl, K', fr', H', hx, hr2, hme⟩ := q
  refine ⟨K', s0, hx, ⟨?_, hr2.F.sub (vsub_ok hme.fr), ?_, hr2.R⟩, hQ⟩
  · have := hr2.H; rw [show H' = s0.H from hme.H] at this; exact this
  · have := hr2.D; rw [show s.df = s0.df from hme.df] at this; exact this

end

end Go.Proofs.Ytoijfbdjlagooaa

/- A call that borrows the caller's blocks and returns new ones. -/
namespace Go.Proofs.Ytoijfbdjlagooaa
open Go Go.RowKit
set_option linter.unusedVariables false
set_option linter.unusedSimpArgs false

/-- A result of the call's own: slices of values that name no memory. -/
inductive Fs (H : Heap) : AV → AV → Prop
  | sc {v v' : AV} (e : v = v') (h : v'.sc) : Fs H v v'
  | nsl : Fs H .nsl (.dsl [] 0)
  | osl {b ver off len sz : Nat} {e : TypeId} {cs cs' : List AV} (h : H[b]? = some (.cells ver e cs)) (hc : (cs.drop off).take (len * sz) = cs') (hs : AV.sc.scL cs') : Fs H (.osl b ver off len sz) (.dsl cs' len)
  | two {a b a' b' : AV} (h : Fs H a a') (k : Fs H b b') : Fs H (.tup [a, b]) (.tup [a', b'])

section
variable {E : Env} {K K0 : Conc} {H H0 : Heap} {w w' : World}

theorem Fs.sound (hH0 : HR E K0 H0 w') (hB : K0.B = w.heap.size) (hH : HR E K H w) : ∀ {v v' : AV} {cv : Value}, Fs H0 v v' → VR K0 v cv → VR (K.after w w') v' cv
  | _, _, cv, .sc e hs, h => by subst e; exact VR.sc _ cv hs h
  | _, _, cv, .nsl, h => by
    simp only [VR] at h ⊢
    exact ⟨none, 0, h, Nat.le_refl _, fun hne => absurd rfl hne⟩
  | .osl b ver off len sz, _, cv, .osl (e := e) (cs := cs) hb hc hs, h => by
    subst hc
    obtain ⟨i, hi, ho⟩ := hH0.info hb
    obtain ⟨hv, arr, h1, h2, h3, h4, h5⟩ := ho
    obtain ⟨cap, e1, e2, e3, e4⟩ := VR.osl_eq h hi hv
    subst e1
    simp only [VR]
    have hlow := hH0.low b i hi
    rw [hB] at hlow
    refine ⟨_, cap, rfl, e2, fun hne => ⟨i.c, off, rfl, CR.of (VRL.sc _ _ hs (VRL.take _ (VRL.drop off h5))) (fun j u hj => ?_) (List.all_eq_true.2 fun x hx => List.all_eq_true.1 h3 x (List.mem_of_mem_drop (List.mem_of_mem_take hx)))⟩⟩
    have hcell : w'.cell? ⟨i.c, off + j, none⟩ = some u := by
      rw [cell_of_arr h1]
      rw [List.getElem?_take] at hj
      split at hj
      · rw [List.getElem?_drop, List.getElem?_take] at hj
        split at hj
        · simpa using hj
        · cases hj
      · cases hj
    simp only [Conc.after]
    split
    · rename_i u' hu'
      have := hH.imm_lt hu'
      omega
    · rw [if_pos hlow]; exact hcell
  | _, _, cv, .two h1 h2, h => by
    simp only [VR, VRL] at h ⊢
    obtain ⟨us, e, u1, l1, e1, v1, u2, l2, e2, v2, e3⟩ := h
    exact ⟨us, e, u1, l1, e1, Fs.sound hH0 hB hH h1 v1, u2, l2, e2, Fs.sound hH0 hB hH h2 v2, e3⟩

/-- As 'lend'; the result may bear slices that the call made. -/
theorem VCall.lendF {g : FuncId} {args args' : List AV} {R Q : AV → Heap → Prop} (h : VCall E g args' [] R) (hf : FzL H 0 [] args args') (hR : ∀ v0 H0, R v0 H0 → ∃ v', Fs H0 v0 v' ∧ Q v' H) : VCall E g args H Q := by
  refine ⟨h.ok, fun K cargs w hH hv => ?_⟩
  have hA := hH.alone (imm := fun c o => w.cell? ⟨c, o, none⟩) hH.imm (fun _ _ _ h => h)
  have hv0 : VRL (Conc.alone (fun c o => w.cell? ⟨c, o, none⟩) w) args' cargs :=
    hf.sound hH (K' := Conc.alone (fun c o => w.cell? ⟨c, o, none⟩) w) ⟨hH.imm, fun b i hb => absurd hb (Nat.not_lt_zero _), fun j b i hj => by simp at hj, fun b i o v _ _ hb hc => hc⟩ hv
  refine (h.call _ cargs w hA hv0).mono fun e w' q => ?_
  obtain ⟨v0, cv, K0, H0, rfl, hx, hH0, hr, hq⟩ := q
  obtain ⟨v', hz, hq'⟩ := hR v0 H0 hq
  have hB : K0.B = w.heap.size := hx.hB
  have hw0 : K0.w0 = w := hx.hw
  have hbel : Below w.heap.size w w' := by have := hH0.below; rw [hB, hw0] at this; exact this
  exact ⟨v', cv, K.after w w', H, rfl, Ext.after hH w', hH.after hbel, hz.sound hH0 hB hH hr, hq'⟩

/-- What a loop leaves by its exit, said once. -/
theorem VLoop.cut {N : Nat} {rd : Option Nat} {c : Code} {s : St} {Q : Exit → St → Prop} {κ : Type} (id : Nat) (st' : κ → St) (P : κ → Prop) (h : VLoop E N rd c (fun e s => e = .exit id ∧ ∃ y, P y ∧ Meets (st' y) s) s)
    (k : ∀ y, P y → Q (.exit id) (st' y)) : VLoop E N rd c Q s := by
  refine ⟨fun K ro a w hr => wpIn_mono (h.run K ro a w hr) fun e a' w' q => ?_⟩
  obtain ⟨K', s', hx, hr', rfl, y, hy, hm⟩ := q
  refine ⟨K', st' y, hx, ⟨?_, hr'.F.sub (vsub_ok hm.fr), ?_, hr'.R⟩, k y hy⟩
  · have := hr'.H; rw [hm.H] at this; exact this
  · have := hr'.D; rw [hm.df] at this; exact this

end

end Go.Proofs.Ytoijfbdjlagooaa

/- Numbers in limbs: plain facts. -/
namespace Go.Proofs.Ytoijfbdjlagooaa
set_option linter.unusedVariables false
set_option linter.unusedSimpArgs false

abbrev BB : Nat := 1000000000

def val : List Nat → Nat
  | [] => 0
  | x :: xs => x + BB * val xs
def okL (l : List Nat) : Prop := ∀ x ∈ l, x < BB
def dg (n : Nat) : List Nat := if h : n = 0 then [] else n % BB :: dg (n / BB)
termination_by n
decreasing_by exact Nat.div_lt_self (by omega) (by decide)
def canon (l : List Nat) : Prop := okL l ∧ ∀ x, l.getLast? = some x → x ≠ 0

theorem dg_zero : dg 0 = [] := by rw [dg]; simp
theorem dg_pos {n : Nat} (h : n ≠ 0) : dg n = n % BB :: dg (n / BB) := by rw [dg]; simp [h]

theorem val_dg (n : Nat) : val (dg n) = n := by
  induction n using Nat.strongRecOn with
  | _ n ih =>
    by_cases h : n = 0
    · subst h; rw [dg_zero]; rfl
    · rw [dg_pos h, val, ih _ (Nat.div_lt_self (by omega) (by decide))]
      exact Nat.mod_add_div n BB

theorem okL_dg (n : Nat) : okL (dg n) := by
  induction n using Nat.strongRecOn with
  | _ n ih =>
    by_cases h : n = 0
    · subst h; rw [dg_zero]; intro x hx; cases hx
    · rw [dg_pos h]
      intro x hx
      rcases List.mem_cons.1 hx with rfl | hx
      · exact Nat.mod_lt _ (by decide)
      · exact ih _ (Nat.div_lt_self (by omega) (by decide)) x hx

theorem dg_eq_nil {n : Nat} : dg n = [] ↔ n = 0 := by
  constructor
  · intro h
    by_cases hn : n = 0
    · exact hn
    · rw [dg_pos hn] at h; cases h
  · rintro rfl; exact dg_zero

theorem dg_last (n : Nat) : ∀ x, (dg n).getLast? = some x → x ≠ 0 := by
  induction n using Nat.strongRecOn with
  | _ n ih =>
    intro x hx
    by_cases h : n = 0
    · subst h; rw [dg_zero] at hx; cases hx
    · rw [dg_pos h] at hx
      by_cases h2 : n / BB = 0
      · rw [h2, dg_zero] at hx
        simp at hx
        have h3 : n < BB := (Nat.div_eq_zero_iff_lt (by decide)).1 h2
        have := Nat.mod_eq_of_lt h3
        omega
      · have hne : dg (n / BB) ≠ [] := fun e => h2 (dg_eq_nil.1 e)
        rw [List.getLast?_cons_of_ne_nil hne] at hx
        exact ih _ (Nat.div_lt_self (by omega) (by decide)) x hx

theorem canon_dg (n : Nat) : canon (dg n) := ⟨okL_dg n, dg_last n⟩

theorem okL_cons {x : Nat} {l : List Nat} : okL (x :: l) ↔ x < BB ∧ okL l := by simp [okL]
theorem okL_append {l m : List Nat} : okL (l ++ m) ↔ okL l ∧ okL m := by
  constructor
  · intro h; exact ⟨fun x hx => h x (List.mem_append_left _ hx), fun x hx => h x (List.mem_append_right _ hx)⟩
  · rintro ⟨h1, h2⟩ x hx
    rcases List.mem_append.1 hx with h | h
    · exact h1 x h
    · exact h2 x h
theorem okL.take {l : List Nat} (h : okL l) (n : Nat) : okL (l.take n) := fun x hx => h x (List.mem_of_mem_take hx)
theorem okL.drop {l : List Nat} (h : okL l) (n : Nat) : okL (l.drop n) := fun x hx => h x (List.mem_of_mem_drop hx)

theorem val_append (l m : List Nat) : val (l ++ m) = val l + BB ^ l.length * val m := by
  induction l with
  | nil => simp [val]
  | cons x l ih =>
    simp only [List.cons_append, val, ih, List.length_cons, Nat.pow_succ]
    rw [Nat.mul_add, ← Nat.add_assoc, Nat.mul_comm (BB ^ l.length) BB, Nat.mul_assoc]

theorem val_lt {l : List Nat} (h : okL l) : val l < BB ^ l.length := by
  induction l with
  | nil => simp [val]
  | cons x l ih =>
    rw [okL_cons] at h
    have := ih h.2
    simp only [val, List.length_cons, Nat.pow_succ]
    have h3 : BB * (val l + 1) ≤ BB * BB ^ l.length := Nat.mul_le_mul_left _ this
    have h4 : x < BB := h.1
    rw [Nat.mul_comm (BB ^ l.length) BB]
    rw [Nat.mul_add] at h3
    omega

theorem dg_val {l : List Nat} (h : canon l) : dg (val l) = l := by
  induction l with
  | nil => exact dg_zero
  | cons x l ih =>
    have h1 := okL_cons.1 h.1
    have hc : canon l := by
      refine ⟨h1.2, fun y hy => ?_⟩
      have hne : l ≠ [] := by rintro rfl; cases hy
      exact h.2 y (by rw [List.getLast?_cons_of_ne_nil hne]; exact hy)
    have hx : x < BB := h1.1
    have hpos : x + BB * val l ≠ 0 := by
      intro h0
      have hx0 : x = 0 := by omega
      have hv0 : val l = 0 := by have h : BB * val l = 0 := by omega
                                 exact (Nat.mul_eq_zero.1 h).resolve_left (by decide)
      have : l = [] := by rw [← ih hc, hv0, dg_zero]
      subst this
      exact h.2 x rfl hx0
    rw [val, dg_pos hpos]
    have e1 : (x + BB * val l) % BB = x := by rw [Nat.add_mul_mod_self_left]; exact Nat.mod_eq_of_lt hx
    have e2 : (x + BB * val l) / BB = val l := by rw [Nat.add_mul_div_left _ _ (by decide), Nat.div_eq_of_lt hx, Nat.zero_add]
    rw [e1, e2, ih hc]

theorem val_zeros (n : Nat) : val (List.replicate n 0) = 0 := by
  induction n with
  | zero => rfl
  | succ n ih => rw [List.replicate_succ, val, ih]; rfl

theorem okL_zeros (n : Nat) : okL (List.replicate n 0) := by
  intro x hx
  have := (List.mem_replicate.1 hx).2
  subst this
  decide

/-- A list of limbs is the number's limbs, and zeros. -/
theorem dg_append_zeros {l : List Nat} (h : okL l) : ∃ k, l = dg (val l) ++ List.replicate k 0 := by
  induction l with
  | nil => exact ⟨0, by simp [val, dg_zero]⟩
  | cons x l ih =>
    have h1 := okL_cons.1 h
    obtain ⟨k, hk⟩ := ih h1.2
    have hx : x < BB := h1.1
    by_cases h0 : x + BB * val l = 0
    · have hx0 : x = 0 := by omega
      have hv0 : val l = 0 := by have h : BB * val l = 0 := by omega
                                 exact (Nat.mul_eq_zero.1 h).resolve_left (by decide)
      rw [hv0, dg_zero] at hk
      refine ⟨k + 1, ?_⟩
      rw [val, h0, dg_zero, hx0, hk, List.replicate_succ]
      simp
    · refine ⟨k, ?_⟩
      have e1 : (x + BB * val l) % BB = x := by rw [Nat.add_mul_mod_self_left]; exact Nat.mod_eq_of_lt hx
      have e2 : (x + BB * val l) / BB = val l := by rw [Nat.add_mul_div_left _ _ (by decide), Nat.div_eq_of_lt hx, Nat.zero_add]
      rw [val, dg_pos h0, e1, e2, List.cons_append, ← hk]

theorem dg_length_le {l : List Nat} (h : okL l) : (dg (val l)).length ≤ l.length := by
  obtain ⟨k, hk⟩ := dg_append_zeros h
  have := congrArg List.length hk
  simp at this
  omega

theorem length_dg_lt {n k : Nat} (h : n < BB ^ k) : (dg n).length ≤ k := by
  induction k generalizing n with
  | zero => simp at h; subst h; simp [dg_zero]
  | succ k ih =>
    by_cases h0 : n = 0
    · subst h0; simp [dg_zero]
    · rw [dg_pos h0, List.length_cons]
      have : n / BB < BB ^ k := by
        apply Nat.div_lt_of_lt_mul
        rw [Nat.pow_succ, Nat.mul_comm] at h
        exact h
      have := ih this
      omega

theorem lt_of_length_dg (n : Nat) : n < BB ^ (dg n).length := by
  have := val_lt (okL_dg n)
  rwa [val_dg] at this

theorem pow_le_of_dg {n : Nat} (h : n ≠ 0) : BB ^ ((dg n).length - 1) ≤ n := by
  induction n using Nat.strongRecOn with
  | _ n ih =>
    rw [dg_pos h, List.length_cons, Nat.add_sub_cancel]
    by_cases h2 : n / BB = 0
    · rw [h2, dg_zero, List.length_nil, Nat.pow_zero]; omega
    · have := ih _ (Nat.div_lt_self (by omega) (by decide)) h2
      have hl : (dg (n / BB)).length = (dg (n / BB)).length - 1 + 1 := by
        have : (dg (n / BB)).length ≠ 0 := fun e => h2 (dg_eq_nil.1 (List.length_eq_zero_iff.1 e))
        omega
      rw [hl, Nat.pow_succ]
      exact Nat.le_trans (Nat.mul_le_mul_right BB this) (Nat.div_mul_le_self n BB)

theorem dg_length_mono {a b : Nat} (h : a ≤ b) : (dg a).length ≤ (dg b).length :=
  length_dg_lt (Nat.lt_of_le_of_lt h (lt_of_length_dg b))

/-- Limb i. -/
theorem getD_val {l : List Nat} (h : okL l) (i : Nat) : l.getD i 0 = val l / BB ^ i % BB := by
  induction l generalizing i with
  | nil => simp [val]
  | cons x l ih =>
    have h1 := okL_cons.1 h
    have hx : x < BB := h1.1
    cases i with
    | zero => simp [val, Nat.add_mul_mod_self_left, Nat.mod_eq_of_lt hx]
    | succ i =>
      have := ih h1.2 i
      simp only [List.getD_cons_succ, this, val]
      rw [Nat.pow_succ, Nat.mul_comm (BB ^ i) BB, ← Nat.div_div_eq_div_mul, Nat.add_mul_div_left _ _ (by decide), Nat.div_eq_of_lt hx, Nat.zero_add]

theorem dg_getD (n i : Nat) : (dg n).getD i 0 = n / BB ^ i % BB := by
  rw [getD_val (okL_dg n), val_dg]

theorem val_take_succ {l : List Nat} {i : Nat} (h : i < l.length) : val (l.take (i + 1)) = val (l.take i) + BB ^ i * l.getD i 0 := by
  rw [List.take_add_one, val_append, List.length_take, Nat.min_eq_left (by omega)]
  simp [List.getD_eq_getElem?_getD, h, val]

theorem val_take {l : List Nat} (h : okL l) (i : Nat) : val (l.take i) = val l % BB ^ i := by
  rcases Nat.lt_or_ge l.length i with hl | hl
  · rw [List.take_of_length_le (by omega)]
    exact (Nat.mod_eq_of_lt (Nat.lt_of_lt_of_le (val_lt h) (Nat.pow_le_pow_right (by decide) (by omega)))).symm
  · have e := congrArg val (List.take_append_drop i l)
    rw [val_append, List.length_take, Nat.min_eq_left hl] at e
    rw [← e, Nat.add_mul_mod_self_left]
    have := val_lt (h.take i)
    rw [List.length_take, Nat.min_eq_left hl] at this
    exact (Nat.mod_eq_of_lt this).symm

theorem val_drop {l : List Nat} (h : okL l) (i : Nat) : val (l.drop i) = val l / BB ^ i := by
  rcases Nat.lt_or_ge l.length i with hl | hl
  · rw [List.drop_eq_nil_of_le (by omega)]
    exact (Nat.div_eq_of_lt (Nat.lt_of_lt_of_le (val_lt h) (Nat.pow_le_pow_right (by decide) (by omega)))).symm
  · have e := congrArg val (List.take_append_drop i l)
    rw [val_append, List.length_take, Nat.min_eq_left hl] at e
    rw [← e, Nat.add_mul_div_left _ _ (Nat.pow_pos (by decide))]
    have := val_lt (h.take i)
    rw [List.length_take, Nat.min_eq_left hl] at this
    rw [Nat.div_eq_of_lt this, Nat.zero_add]

theorem val_split {l : List Nat} {i : Nat} (h : i < l.length) : val l = val (l.take i) + BB ^ i * (l.getD i 0 + BB * val (l.drop (i + 1))) := by
  have e := congrArg val (List.take_append_drop i l)
  rw [val_append, List.length_take, Nat.min_eq_left (by omega), List.drop_eq_getElem_cons h] at e
  rw [← e, val]
  simp [List.getD_eq_getElem?_getD, h]

theorem val_lt_of {a b : List Nat} {i : Nat} (ha : okL a) (hb : okL b) (hia : i < a.length) (hib : i < b.length) (hd : a.drop (i + 1) = b.drop (i + 1)) (hlt : a.getD i 0 < b.getD i 0) : val a < val b := by
  rw [val_split hia, val_split hib, hd]
  have h1 := val_lt (ha.take i)
  rw [List.length_take, Nat.min_eq_left (by omega)] at h1
  have h2 : BB ^ i * (a.getD i 0 + BB * val (b.drop (i + 1)) + 1) ≤ BB ^ i * (b.getD i 0 + BB * val (b.drop (i + 1))) := Nat.mul_le_mul_left _ (by omega)
  rw [Nat.mul_add, Nat.mul_one] at h2
  omega

theorem canon.ge {b : List Nat} (hb : canon b) (h : b ≠ []) : BB ^ (b.length - 1) ≤ val b := by
  have e := dg_val hb
  have hne : val b ≠ 0 := fun h0 => h (by rw [← e, h0, dg_zero])
  have := pow_le_of_dg hne
  rwa [e] at this

theorem canon_lt {a b : List Nat} (ha : okL a) (hb : canon b) (h : a.length < b.length) : val a < val b := by
  have h1 := val_lt ha
  have h2 := hb.ge (by rintro rfl; simp at h)
  have h3 : BB ^ a.length ≤ BB ^ (b.length - 1) := Nat.pow_le_pow_right (by decide) (by omega)
  omega

theorem val_inj {a b : List Nat} (ha : canon a) (hb : canon b) (h : val a = val b) : a = b := by rw [← dg_val ha, ← dg_val hb, h]

def cmpN (a b : Nat) : Int := if a < b then -1 else if a = b then 0 else 1
theorem cmpN_lt {a b : Nat} (h : a < b) : cmpN a b = -1 := by simp [cmpN, h]
theorem cmpN_eq {a b : Nat} (h : a = b) : cmpN a b = 0 := by simp [cmpN, h]
theorem cmpN_gt {a b : Nat} (h : b < a) : cmpN a b = 1 := by simp [cmpN, Nat.not_lt.2 (Nat.le_of_lt h), Nat.ne_of_gt h]

end Go.Proofs.Ytoijfbdjlagooaa

/- Numbers in limbs as values; ranges of ints. -/
namespace Go.Proofs.Ytoijfbdjlagooaa
open Go Go.RowKit
set_option linter.unusedVariables false
set_option linter.unusedSimpArgs false

theorem InR.i64 {n : Int} (h1 : -9223372036854775808 ≤ n) (h2 : n < 9223372036854775808) : InR .i64 n := by
  constructor
  simp only [IntKind.wrap, IntKind.bits, IntKind.signed, Bool.true_and, decide_eq_true_eq, ge_iff_le]
  split <;> omega
theorem InR.u64 {n : Int} (h1 : 0 ≤ n) (h2 : n < 18446744073709551616) : InR .u64 n := by
  constructor
  simp only [IntKind.wrap, IntKind.bits, IntKind.signed, Bool.false_and, Bool.false_eq_true, if_false]
  omega
theorem InR.u32 {n : Int} (h1 : 0 ≤ n) (h2 : n < 4294967296) : InR .u32 n := by
  constructor
  simp only [IntKind.wrap, IntKind.bits, IntKind.signed, Bool.false_and, Bool.false_eq_true, if_false]
  omega
theorem InR.u8 {n : Int} (h1 : 0 ≤ n) (h2 : n < 256) : InR .u8 n := by
  constructor
  simp only [IntKind.wrap, IntKind.bits, IntKind.signed, Bool.false_and, Bool.false_eq_true, if_false]
  omega

def limbs (l : List Nat) : List AV := l.map fun (n : Nat) => .int .u32 (n : Int)
def natL (l : List Nat) : AV := .dsl (limbs l) l.length
def natv (n : Nat) : AV := natL (dg n)

theorem length_limbs (l : List Nat) : (limbs l).length = l.length := by simp [limbs]
theorem limbs_append (l m : List Nat) : limbs (l ++ m) = limbs l ++ limbs m := by simp [limbs]
theorem limbs_take (l : List Nat) (n : Nat) : (limbs l).take n = limbs (l.take n) := by simp [limbs, List.map_take]
theorem limbs_drop (l : List Nat) (n : Nat) : (limbs l).drop n = limbs (l.drop n) := by simp [limbs, List.map_drop]
theorem head_limbs_drop {l : List Nat} {i : Nat} (h : i < l.length) : ((limbs l).drop i).head? = some (.int .u32 ((l.getD i 0 : Nat) : Int)) := by
  simp [limbs, List.head?_drop, h]
theorem IntAt.limbs {l : List Nat} {i : Nat} (h : i < l.length) : IntAt .u32 ((limbs l).drop i) := ⟨_, head_limbs_drop h⟩
theorem getInt_eq {k : IntKind} {cs : List AV} {n : Int} (h : cs.head? = some (.int k n)) : getInt cs = n := by
  cases cs with
  | nil => cases h
  | cons c cs => simp at h; subst h; rfl
theorem getInt_limbs (l : List Nat) (i : Nat) : getInt ((limbs l).drop i) = ((l.getD i 0 : Nat) : Int) := by
  rcases Nat.lt_or_ge i l.length with h | h
  · exact getInt_eq (head_limbs_drop h)
  · rw [List.drop_eq_nil_of_le (by simpa [Go.Proofs.Ytoijfbdjlagooaa.limbs] using h)]
    simp [getInt, List.getD_eq_getElem?_getD, h]
theorem low_limbs (n : Nat) : ∀ (l : List Nat), lowL n (limbs l)
  | [] => trivial
  | _ :: l => ⟨trivial, low_limbs n l⟩
theorem low_natL (n : Nat) (l : List Nat) : (natL l).low n := low_limbs n l
theorem splice_limbs {l : List Nat} {i : Nat} (h : i < l.length) (n : Nat) : splice (limbs l) i [.int .u32 (n : Int)] = limbs (l.set i n) := by
  simp only [splice, List.length_singleton, limbs_take, limbs_drop]
  rw [show [AV.int .u32 (n : Int)] = limbs [n] from rfl, ← limbs_append, ← limbs_append]
  rw [List.set_eq_take_append_cons_drop, if_pos h]
  simp
theorem limbs_zeros (n : Nat) : reps n [.int .u32 0] = limbs (List.replicate n 0) := by
  simp [reps, limbs]

theorem Fz.nat {H : Heap} {n b ver len : Nat} {σ : List Nat} {e : TypeId} {cs : List AV} {l : List Nat} (hn : n ≤ b) (hs : b ∉ σ) (h : H[b]? = some (.cells ver e cs)) (hc : cs.take (len * 1) = Go.Proofs.Ytoijfbdjlagooaa.limbs l) (hl : len = l.length) :
    Fz H n σ (.osl b ver 0 len 1) (natL l) := by
  subst hl
  exact .osl hn hs h (by rw [List.drop_zero, hc]; exact FzL.refl (low_limbs n l))

theorem tmod_BB (n : Nat) : ((n : Int)).tmod 1000000000 = ((n % BB : Nat) : Int) := rfl
theorem tdiv_BB (n : Nat) : ((n : Int)).tdiv 1000000000 = ((n / BB : Nat) : Int) := rfl
/-- Bytes as cells. -/
def bl (l : List Nat) : List AV := l.map fun (n : Nat) => .int .u8 (n : Int)
theorem length_bl (l : List Nat) : (bl l).length = l.length := by simp [bl]
theorem bl_append (l m : List Nat) : bl (l ++ m) = bl l ++ bl m := by simp [bl]
theorem bl_take (l : List Nat) (n : Nat) : (bl l).take n = bl (l.take n) := by simp [bl, List.map_take]
theorem bl_drop (l : List Nat) (n : Nat) : (bl l).drop n = bl (l.drop n) := by simp [bl, List.map_drop]
theorem head_bl_drop {l : List Nat} {i : Nat} (h : i < l.length) : ((bl l).drop i).head? = some (.int .u8 ((l.getD i 0 : Nat) : Int)) := by
  simp [bl, List.head?_drop, List.getD_eq_getElem?_getD, h]
theorem IntAt.bl {l : List Nat} {i : Nat} (h : i < l.length) : IntAt .u8 ((bl l).drop i) := ⟨_, head_bl_drop h⟩
theorem getInt_bl (l : List Nat) (i : Nat) : getInt ((bl l).drop i) = ((l.getD i 0 : Nat) : Int) := by
  rcases Nat.lt_or_ge i l.length with h | h
  · exact getInt_eq (head_bl_drop h)
  · rw [List.drop_eq_nil_of_le (by simpa [Go.Proofs.Ytoijfbdjlagooaa.bl] using h)]
    simp [getInt, List.getD_eq_getElem?_getD, h]
theorem low_bl (n : Nat) : ∀ (l : List Nat), lowL n (bl l)
  | [] => trivial
  | _ :: l => ⟨trivial, low_bl n l⟩
theorem splice_bl {l : List Nat} {i : Nat} (h : i < l.length) (n : Nat) : splice (bl l) i [.int .u8 (n : Int)] = bl (l.set i n) := by
  simp only [splice, List.length_singleton, bl_take, bl_drop]
  rw [show [AV.int .u8 (n : Int)] = bl [n] from rfl, ← bl_append, ← bl_append]
  rw [List.set_eq_take_append_cons_drop, if_pos h]
  simp

theorem tdiv_nat (a b : Nat) : (a : Int).tdiv (b : Int) = ((a / b : Nat) : Int) := rfl
theorem tmod_nat (a b : Nat) : (a : Int).tmod (b : Int) = ((a % b : Nat) : Int) := rfl

end Go.Proofs.Ytoijfbdjlagooaa

/- The names of this program, and what is known of its types. -/
namespace Go.Proofs.Ytoijfbdjlagooaa
open Go Go.RowKit
set_option linter.unusedVariables false
set_option maxRecDepth 100000

def tab : List (Option TI) := [
  none,
  (some (.mk 1 8 [.nfn] (.func #[] #[] false))),
  (some (.mk 1 8 [(.int .i64 (0))] (.int .i64))),
  (some (.mk 1 8 [(.int .i64 (0))] (.int .i64))),
  (some (.mk 1 1 [(.bool false)] .bool)),
  (some (.mk 1 1 [(.int .u8 (0))] (.int .u8))),
  (some (.mk 1 1 [(.int .u8 (0))] (.int .u8))),
  (some (.mk 4 24 [(.int .i64 (0)), (.int .i64 (0)), (.bool false), (.int .u8 (0))] (.struct #[(.mk "x" 2 0 false "" "runtime" 0), (.mk "y" 3 1 false "" "runtime" 8), (.mk "signed" 4 2 false "" "runtime" 16), (.mk "code" 6 3 false "" "runtime" 17)]))),
  (some (.mk 4 24 [(.int .i64 (0)), (.int .i64 (0)), (.bool false), (.int .u8 (0))] (.struct #[(.mk "x" 2 0 false "" "runtime" 0), (.mk "y" 3 1 false "" "runtime" 8), (.mk "signed" 4 2 false "" "runtime" 16), (.mk "code" 6 3 false "" "runtime" 17)]))),
  (some (.mk 1 16 [(.str (ByteArray.mk #[]))] .string)),
  (some (.mk 1 16 [(.str (ByteArray.mk #[]))] .string)),
  (some (.mk 1 16 [(.str (ByteArray.mk #[]))] .string)),
  (some (.mk 1 8 [(.int .u64 (0))] (.int .u64))),
  (some (.mk 2 24 [(.str (ByteArray.mk #[])), (.int .u64 (0))] (.struct #[(.mk "msg" 9 0 false "" "runtime" 0), (.mk "addr" 12 1 false "" "runtime" 16)]))),
  (some (.mk 2 24 [(.str (ByteArray.mk #[])), (.int .u64 (0))] (.struct #[(.mk "msg" 9 0 false "" "runtime" 0), (.mk "addr" 12 1 false "" "runtime" 16)]))),
  (some (.mk 1 8 [.nptr] (.pointer 102))),
  (some (.mk 1 8 [.nptr] (.pointer 105))),
  (some (.mk 1 8 [.nptr] (.pointer 114))),
  (some (.mk 1 8 [.nptr] (.struct #[(.mk "typ" 17 0 false "" "internal/runtime/maps" 0)]))),
  (some (.mk 1 8 [.nptr] (.struct #[(.mk "typ" 17 0 false "" "internal/runtime/maps" 0)]))),
  (some (.mk 1 16 [.niface] (.interface #[]))),
  (some (.mk 1 4 [(.int .i32 (0))] (.int .i32))),
  (some (.mk 1 24 [.nsl] (.slice 41))),
  (some (.mk 1 24 [.nsl] (.slice 41))),
  (some (.mk 3 56 [(.bool false), .nsl, .nsl] (.struct #[(.mk "Neg" 4 0 false "" "" 0), (.mk "Num" 23 1 false "" "" 8), (.mk "Den" 23 2 false "" "" 32)]))),
  (some (.mk 3 56 [(.bool false), .nsl, .nsl] (.struct #[(.mk "Neg" 4 0 false "" "" 0), (.mk "Num" 23 1 false "" "" 8), (.mk "Den" 23 2 false "" "" 32)]))),
  (some (.mk 1 8 [.nfn] (.func #[25] #[4] false))),
  (some (.mk 1 8 [.nfn] (.func #[] #[4] false))),
  (some (.mk 1 8 [(.int .i64 (0))] (.int .i64))),
  none,
  (some (.mk 1 8 [.nfn] (.func #[25, 25] #[25, 28] false))),
  (some (.mk 1 8 [.nfn] (.func #[25, 25] #[4] false))),
  (some (.mk 1 24 [.nsl] (.slice 3))),
  (some (.mk 1 8 [.nptr] (.pointer 35))),
  (some (.mk 2 32 [.nsl, (.int .i64 (0))] (.struct #[(.mk "L" 32 0 false "" "" 0), (.mk "At" 3 1 false "" "" 24)]))),
  (some (.mk 2 32 [.nsl, (.int .i64 (0))] (.struct #[(.mk "L" 32 0 false "" "" 0), (.mk "At" 3 1 false "" "" 24)]))),
  (some (.mk 1 8 [.nfn] (.func #[33, 3] #[25] false))),
  (some (.mk 1 8 [.nfn] (.func #[3, 3] #[25] false))),
  (some (.mk 1 8 [.nfn] (.func #[3] #[3] false))),
  none,
  (some (.mk 1 8 [.nfn] (.func #[25, 25] #[3, 28] false))),
  (some (.mk 1 4 [(.int .u32 (0))] (.int .u32))),
  (some (.mk 1 8 [.nfn] (.func #[25, 25] #[25] false))),
  (some (.mk 1 8 [.nfn] (.func #[32] #[4] false))),
  (some (.mk 1 8 [.nfn] (.func #[25] #[25] false))),
  (some (.mk 1 8 [.nfn] (.func #[25] #[28] false))),
  none,
  (some (.mk 1 8 [.nfn] (.func #[22, 22, 4] #[25, 4] false))),
  (some (.mk 1 8 [.nfn] (.func #[3, 3] #[3] false))),
  (some (.mk 1 8 [.nfn] (.func #[22, 22, 22, 3] #[4] false))),
  (some (.mk 1 8 [.nfn] (.func #[25] #[25, 28] false))),
  (some (.mk 1 8 [.nfn] (.func #[22, 22] #[4] false))),
  (some (.mk 1 8 [.nfn] (.func #[3, 3] #[25, 28] false))),
  (some (.mk 1 8 [.nfn] (.func #[4, 23, 23] #[25, 28] false))),
  (some (.mk 1 8 [.nfn] (.func #[25, 3] #[3, 28] false))),
  (some (.mk 1 8 [.nfn] (.func #[25, 3, 3] #[4] false))),
  (some (.mk 1 8 [.nfn] (.func #[25, 28, 3, 3] #[4] false))),
  (some (.mk 1 8 [.nfn] (.func #[59, 30] #[25, 28] false))),
  (some (.mk 6 112 [(.bool false), .nsl, .nsl, (.bool false), .nsl, .nsl] (.struct #[(.mk "a" 25 0 false "" "parlour/rat" 0), (.mk "b" 25 3 false "" "parlour/rat" 56)]))),
  (some (.mk 6 112 [(.bool false), .nsl, .nsl, (.bool false), .nsl, .nsl] (.struct #[(.mk "a" 25 0 false "" "parlour/rat" 0), (.mk "b" 25 3 false "" "parlour/rat" 56)]))),
  (some (.mk 1 8 [(.int .i64 (0))] (.int .i64))),
  (some (.mk 1 8 [.nfn] (.func #[25, 25] #[3] false))),
  (some (.mk 1 8 [.nfn] (.func #[59] #[25] false))),
  (some (.mk 1 8 [.nfn] (.func #[25, 25] #[28] false))),
  (some (.mk 1 8 [.nfn] (.func #[3] #[23] false))),
  (some (.mk 1 8 [.nfn] (.func #[59, 40] #[3, 28] false))),
  (some (.mk 1 8 [.nfn] (.func #[23] #[28] false))),
  (some (.mk 1 8 [.nfn] (.func #[23, 23] #[3] false))),
  (some (.mk 1 8 [.nfn] (.func #[23, 23] #[23] false))),
  (some (.mk 1 8 [.nfn] (.func #[23, 23] #[28] false))),
  (some (.mk 1 8 [.nfn] (.func #[22] #[23] false))),
  (some (.mk 2 48 [.nsl, .nsl] (.array 2 23))),
  (some (.mk 1 8 [.nfn] (.func #[4, 23, 23] #[25] false))),
  none,
  (some (.mk 1 8 [.nfn] (.func #[4, 23] #[3, 4] false))),
  (some (.mk 1 8 [.nfn] (.func #[25] #[3, 28] false))),
  (some (.mk 1 8 [.nfn] (.func #[3] #[25] false))),
  (some (.mk 6 112 [(.bool false), .nsl, .nsl, (.bool false), .nsl, .nsl] (.array 2 25))),
  (some (.mk 1 8 [.nfn] (.func #[90] #[4] true))),
  (some (.mk 1 8 [.nfn] (.func #[23] #[23] false))),
  none,
  (some (.mk 1 8 [.nfn] (.func #[23] #[23, 28] false))),
  none,
  (some (.mk 1 8 [.nfn] (.func #[4, 23, 4, 23] #[4, 23] false))),
  (some (.mk 1 8 [.nfn] (.func #[23, 85] #[4] false))),
  (some (.mk 1 8 [.nfn] (.func #[41] #[4] false))),
  none,
  (some (.mk 1 8 [.nfn] (.func #[23, 23] #[23, 23] false))),
  (some (.mk 1 8 [(.int .u64 (0))] (.int .u64))),
  (some (.mk 1 8 [.nfn] (.func #[88] #[23] false))),
  (some (.mk 1 24 [.nsl] (.slice 25))),
  (some (.mk 1 8 [.nfn] (.func #[23, 85] #[3] false))),
  none,
  (some (.mk 1 8 [.nfn] (.func #[23, 88] #[23, 88] false))),
  (some (.mk 1 8 [.nfn] (.func #[23, 23, 88] #[4] false))),
  (some (.mk 1 8 [.nfn] (.func #[41] #[23] false))),
  (some (.mk 1 8 [.nfn] (.func #[99] #[] false))),
  (some (.mk 1 8 [.nfn] (.func #[99] #[] false))),
  (some (.mk 1 8 [.nfn] (.func #[23, 23] #[97] false))),
  (some (.mk 1 8 [.nfn] (.func #[88, 88] #[4] false))),
  (some (.mk 1 8 [.nfn] (.func #[] #[9] false))),
  (some (.mk 4 40 [.nptr, .nptr, .nptr, (.str (ByteArray.mk #[]))] (.struct #[(.mk "_interface" 17 0 false "" "runtime" 0), (.mk "concrete" 17 1 false "" "runtime" 8), (.mk "asserted" 17 2 false "" "runtime" 16), (.mk "missingMethod" 9 3 false "" "runtime" 24)]))),
  (some (.mk 4 40 [.nptr, .nptr, .nptr, (.str (ByteArray.mk #[]))] (.struct #[(.mk "_interface" 17 0 false "" "runtime" 0), (.mk "concrete" 17 1 false "" "runtime" 8), (.mk "asserted" 17 2 false "" "runtime" 16), (.mk "missingMethod" 9 3 false "" "runtime" 24)]))),
  (some (.mk 0 0 [] (.array 0 16))),
  (some (.mk 0 0 [] (.struct #[(.mk "_" 103 0 false "" "runtime" 0)]))),
  (some (.mk 0 0 [] (.struct #[(.mk "_" 103 0 false "" "runtime" 0)]))),
  (some (.mk 1 8 [.nfn] (.func #[] #[3] false))),
  (some (.mk 1 1 [(.int .u8 (0))] (.int .u8))),
  (some (.mk 1 1 [(.int .u8 (0))] (.int .u8))),
  (some (.mk 1 8 [.nfn] (.func #[115, 115] #[4] false))),
  (some (.mk 1 8 [.nptr] (.pointer 5))),
  (some (.mk 1 4 [(.int .i32 (0))] (.int .i32))),
  (some (.mk 1 4 [(.int .i32 (0))] (.int .i32))),
  (some (.mk 11 48 [(.int .u64 (0)), (.int .u64 (0)), (.int .u32 (0)), (.int .u8 (0)), (.int .u8 (0)), (.int .u8 (0)), (.int .u8 (0)), .nfn, .nptr, (.int .i32 (0)), (.int .i32 (0))] (.struct #[(.mk "Size_" 12 0 false "" "" 0), (.mk "PtrBytes" 12 1 false "" "" 8), (.mk "Hash" 41 2 false "" "" 16), (.mk "TFlag" 107 3 false "" "" 20), (.mk "Align_" 5 4 false "" "" 21), (.mk "FieldAlign_" 5 5 false "" "" 22), (.mk "Kind_" 108 6 false "" "" 23), (.mk "Equal" 109 7 false "" "" 24), (.mk "GCData" 110 8 false "" "" 32), (.mk "Str" 111 9 false "" "" 40), (.mk "PtrToThis" 112 10 false "" "" 44)]))),
  (some (.mk 11 48 [(.int .u64 (0)), (.int .u64 (0)), (.int .u32 (0)), (.int .u8 (0)), (.int .u8 (0)), (.int .u8 (0)), (.int .u8 (0)), .nfn, .nptr, (.int .i32 (0)), (.int .i32 (0))] (.struct #[(.mk "Size_" 12 0 false "" "" 0), (.mk "PtrBytes" 12 1 false "" "" 8), (.mk "Hash" 41 2 false "" "" 16), (.mk "TFlag" 107 3 false "" "" 20), (.mk "Align_" 5 4 false "" "" 21), (.mk "FieldAlign_" 5 5 false "" "" 22), (.mk "Kind_" 108 6 false "" "" 23), (.mk "Equal" 109 7 false "" "" 24), (.mk "GCData" 110 8 false "" "" 32), (.mk "Str" 111 9 false "" "" 40), (.mk "PtrToThis" 112 10 false "" "" 44)]))),
  (some (.mk 1 8 [.nptr] .unsafePointer))]
def ptab : List (Option (Array (Nat × Nat))) := [
  none, none, none, none, none, none, none, (some #[(0, 1), (1, 1), (2, 1), (3, 1)]), (some #[(0, 1), (1, 1), (2, 1), (3, 1)]), none, none, none, none, (some #[(0, 1), (1, 1)]), (some #[(0, 1), (1, 1)]), none, none, none, (some #[(0, 1)]), (some #[(0, 1)]), none, none, none, none, (some #[(0, 1), (1, 1), (2, 1)]), (some #[(0, 1), (1, 1), (2, 1)]), none, none, none, none, none, none, none, none, (some #[(0, 1), (1, 1)]), (some #[(0, 1), (1, 1)]), none, none, none, none, none, none, none, none, none, none, none, none, none, none, none, none, none, none, none, none, none, none, (some #[(0, 3), (3, 3)]), (some #[(0, 3), (3, 3)]), none, none, none, none, none, none, none, none, none, none, none, none, none, none, none, none, none, none, none, none, none, none, none, none, none, none, none, none, none, none, none, none, none, none, none, none, none, none, none, none, none, (some #[(0, 1), (1, 1), (2, 1), (3, 1)]), (some #[(0, 1), (1, 1), (2, 1), (3, 1)]), none, (some #[(0, 0)]), (some #[(0, 0)]), none, none, none, none, none, none, none, (some #[(0, 1), (1, 1), (2, 1), (3, 1), (4, 1), (5, 1), (6, 1), (7, 1), (8, 1), (9, 1), (10, 1)]), (some #[(0, 1), (1, 1), (2, 1), (3, 1), (4, 1), (5, 1), (6, 1), (7, 1), (8, 1), (9, 1), (10, 1)]), none]
theorem tab_eq : tab = (List.range 116).map (tinfo Try.prog) := by kernel_rfl
theorem ptab_eq : ptab = (List.range 116).map (fplaces Try.prog) := by kernel_rfl
theorem tab_ok (t : Nat) (x : TI) (h : (tab[t]?).join = some x) : tinfo Try.prog t = some x := by
  rw [tab_eq, List.getElem?_map] at h
  rcases Nat.lt_or_ge t 116 with hl | hl
  · rw [List.getElem?_range hl] at h; simpa using h
  · rw [List.getElem?_eq_none (by simpa using hl)] at h; simp at h
theorem ptab_ok (t : Nat) (x : Array (Nat × Nat)) (h : (ptab[t]?).join = some x) : fplaces Try.prog t = some x := by
  rw [ptab_eq, List.getElem?_map] at h
  rcases Nat.lt_or_ge t 116 with hl | hl
  · rw [List.getElem?_range hl] at h; simpa using h
  · rw [List.getElem?_eq_none (by simpa using hl)] at h; simp at h

noncomputable def EE : Env := ⟨Try.prog, fun t => (tab[t]?).join, fun t => (ptab[t]?).join, fun _ => none, tab_ok, ptab_ok, fun _ _ h => nomatch h⟩
theorem mixed : EE.P.follows .mixedOrders = true := by kernel_rfl

end Go.Proofs.Ytoijfbdjlagooaa

/- Loops by themselves. -/
namespace Go.Proofs.Ytoijfbdjlagooaa
open Go Go.RowKit
set_option linter.unusedVariables false
set_option linter.unusedSimpArgs false

/-- The bodies of a code's loops, each before those inside it. -/
def loopsOf : Code → List Code
  | .seq x y => loopsOf x ++ loopsOf y
  | .cond _ x y => loopsOf x ++ loopsOf y
  | .block _ c => loopsOf c
  | .scope c => loopsOf c
  | .loop c => c :: loopsOf c
  | .rangeFunc _ _ _ b => loopsOf b
  | _ => []
def nthLoop (f : Func) (k : Nat) : Code := match f.body with
  | some c => ((loopsOf c)[k]?).getD .skip
  | none => .skip

section
variable {E : Env} {N : Nat} {rd : Option Nat} {c : Code} {s : St} {Q Q' : Exit → St → Prop}

theorem VLoop.mono (h : VLoop E N rd c Q s) (hq : ∀ e s, Q e s → Q' e s) : VLoop E N rd c Q' s :=
  ⟨fun K ro a w hr => wpIn_mono (h.run K ro a w hr) fun e a' w' ⟨K', s', hx, hr', q⟩ => ⟨K', s', hx, hr', hq _ _ q⟩⟩

theorem VLoop.meets {s0 : St} (h : VLoop E N rd c Q s0) (hm : Meets s0 s) : VLoop E N rd c Q s := by
  have e : s0 = ⟨s0.fr, s.H, s.df⟩ := by rw [hm.H, hm.df]
  rw [e] at h
  exact ⟨h.run.forget hm.fr⟩

/-- A loop proved by itself. -/
theorem VLoop.use {κ : Type} {id : Nat} {st' : κ → St} {P : κ → Prop} {s0 : St} (h : VLoop E N rd c (fun e s => e = .exit id ∧ ∃ y, P y ∧ Meets (st' y) s) s0) (hm : Meets s0 s)
    (k : ∀ y, P y → Q (.exit id) (st' y)) : VLoop E N rd c Q s := VLoop.cut id st' P (h.meets hm) k
end

/-- A call whose arguments are data and whose result becomes this value. -/
theorem VCall.iso {E : Env} {g : FuncId} {args : List AV} {H : Heap} {r : AV} {Q : AV → Heap → Prop} (h : VCall E g args [] fun v H => Fz H 0 [] v r) (hl : lowL 0 args) (k : Q r H) : VCall E g args H Q :=
  VCall.isolate h hl fun _ _ hz => ⟨_, hz, k⟩
/-- The same where the result is said as an equation. -/
theorem VCall.isoS {E : Env} {g : FuncId} {args : List AV} {H : Heap} {r : AV} {Q : AV → Heap → Prop} (h : VCall E g args [] fun v H => v = r) (hr : r.low 0) (hl : lowL 0 args) (k : Q r H) : VCall E g args H Q :=
  VCall.isolate h hl fun _ _ hz => ⟨_, .same hz hr, k⟩

end Go.Proofs.Ytoijfbdjlagooaa

/- Regions that draw their order: operations that leave memory alone are taken first, the others in every order; what was made may be numbered anew. -/
namespace Go.Proofs.Ytoijfbdjlagooaa
open Go Go.RowKit
set_option linter.unusedVariables false
set_option linter.unusedSimpArgs false

def takeL (ops : Array Oper) : List Nat → Array Bool → Bool
  | [], _ => true
  | k :: ks, listed => (Region.ready .any ops listed).contains k && Region.free .any ops listed k && takeL ops ks (listed.setIfInBounds k true)
def setL : List Nat → Array Bool → Array Bool
  | [], l => l
  | k :: ks, l => setL ks (l.setIfInBounds k true)

def vp2 (E : Env) (fr : Fr) (Q : AV → Prop) (op : Op) : Prop :=
  match op with
  | .call { callee := .builtin .len, args, argTypes } => match evs E fr args.toList, argTypes.toList with
    | some [.dsl cs len], [t] => match E.un t with
      | some (.slice _) => Q (.int .i64 len)
      | _ => False
    | some [.nsl], [t] => match E.un t with
      | some (.slice _) => Q (.int .i64 0)
      | _ => False
    | _, _ => False
  | .slice t x lo hi none => match ev E fr x, evo E fr lo, evo E fr hi with
    | some (.dsl cs len), some l, some h => match E.un t with
      | some (.slice _) => vslice E [] Q t (.dsl cs len) l h
      | _ => False
    | _, _, _ => False
  | op => vp E fr Q op

def vtakeL (E : Env) (N : Nat) (ops : List Oper) : List Nat → Fr → (Fr → Prop) → Prop
  | [], fr, K => K fr
  | k :: r, fr, K => match ops[k]? with
    | some o => match o.guard with
      | none => vp2 E fr (fun v => vput N fr o.dst v fun fr' => vtakeL E N ops r fr' K) o.op
      | some _ => False
    | none => False

section
variable {E : Env} {m : Bool} {N : Nat} {rd ro : Option Nat} {fr : Fr} {H : Heap} {K : Conc} {w : World} {a : Act} {ops : Array Oper}

theorem aslice_dsl {t el : TypeId} {cs : List AV} {len : Nat} {v : AV} {xv : Value} {lo hi : Option AV} {lv hv : Option Value} (hu : E.un t = some (.slice el)) (hx : VR K (.dsl cs len) xv)
    (hlo : (lo = none ∧ lv = none) ∨ ∃ a u, lo = some a ∧ lv = some u ∧ VR K a u) (hhi : (hi = none ∧ hv = none) ∨ ∃ a u, hi = some a ∧ hv = some u ∧ VR K a u)
    (h : aslice E [] t (.dsl cs len) lo hi = some v) : ∃ cv, VR K v cv ∧ ∀ w, (Instr.sliceAt t xv lv hv none).run E.P w = .ok cv w := by
  unfold aslice at h
  simp only [hu] at h
  split at h
  · rename_i hh ll y e1 e2 hy
    have b1 := bound_sound hhi e1
    have b2 := bound_sound hlo e2
    split at h
    · rename_i hb
      cases h
      simp only [VR] at hx
      obtain ⟨ao, c, rfl, hlc, hcr⟩ := hx
      refine ⟨.slice (if c = ll then ao else ao.map (·.add (ll * y.size))) (hh - ll) (c - ll), ⟨_, _, rfl, by omega, fun hne => ?_⟩, fun w => ?_⟩
      · have hne' : cs ≠ [] := by rintro rfl; simp at hne
        obtain ⟨b, o, rfl, hcc⟩ := hcr hne'
        have hlt : ll < hh := by
          rcases Nat.lt_or_ge ll hh with h' | h'
          · exact h'
          · have : hh - ll = 0 := by omega
            rw [this] at hne
            simp at hne
        have : ¬ c = ll := by omega
        refine ⟨b, o + ll * y.size, by simp [this, add_off], (hcc.drop _).take _⟩
      · have hr := run_bounds (E := E) (w := w) (isS := true) b2 b1 hb.1 hb.2 hlc
        simp [Instr.sliceAt, Instr.slice, run_underlying (Env.un_ok hu), hr, run_sizeOf' (E.ti_ok _ _ hy)]
    · cases h
  · cases h

theorem vp2_ok (hH : HR E K H w) (hF : FR K N fr a.tmps) {Q : AV → Prop} {o : Oper} (h : vp2 E fr Q o.op) :
    ∃ v cv, Q v ∧ VR K v cv ∧ (∀ w, (execOp a.eval o).run E.P w = .ok (.value cv) w) ∧ ∀ w, o.about E.P w a.eval = none := by
  obtain ⟨dst, op, ty, pos, after, guard⟩ := o
  dsimp only at h
  unfold vp2 at h
  split at h
  · rename_i args ts
    have lenrun : ∀ {t : TypeId} {x : AV} {xs : List AV} {len : Nat} {el : TypeId}, evs E fr args.toList = some [x] → ts.toList = [t] → E.un t = some (.slice el) → (∀ xv, VR K x xv → ∃ a c, xv = .slice a len c) →
        ∀ w, (execOp a.eval ⟨dst, .call { callee := .builtin .len, args := args, argTypes := ts }, ty, pos, after, guard⟩).run E.P w = .ok (.value (.int .i64 len)) w := by
      intro t x xs len el he ht hu hx w
      have e1 := evs_sound hH hF he
      simp only [VRL] at e1
      obtain ⟨u, us, e2, hv, rfl⟩ := e1
      have ha : args.map a.eval = #[u] := by apply Array.ext'; simpa using e2
      have hts : ts = #[t] := by apply Array.ext'; simpa using ht
      obtain ⟨ao, c, rfl⟩ := hx u hv
      subst hts
      have : (Builtin.len_ #[t] ty #[.slice ao len c]).run E.P w = .ok (.int .i64 len) w := by
        simp [Builtin.len_, run_underlying (Env.un_ok hu), goInt]
      simp [execOp, resolve, invoke, builtin, ha, this]
    split at h
    · rename_i cs len t he ht
      split at h
      · rename_i el hu
        exact ⟨_, .int .i64 len, h, rfl, lenrun (xs := []) he ht hu (fun xv hx => by simp only [VR] at hx; obtain ⟨a, c, rfl, _⟩ := hx; exact ⟨a, c, rfl⟩), fun w => rfl⟩
      · exact h.elim
    · rename_i t he ht
      split at h
      · rename_i el hu
        exact ⟨_, .int .i64 (0 : Nat), h, rfl, lenrun (xs := []) he ht hu (fun xv hx => by simp only [VR] at hx; subst hx; exact ⟨_, _, rfl⟩), fun w => rfl⟩
      · exact h.elim
    · exact h.elim
  · rename_i t x lo hi
    split at h
    · rename_i cs len l hh h1 h2 h3
      split at h
      · rename_i el hu
        obtain ⟨v, h4, h5⟩ := vslice_ok h
        obtain ⟨cv, r1, r2⟩ := aslice_dsl hu (ev_sound hH hF h1) (evo_sound hH hF h2) (evo_sound hH hF h3) h4
        refine ⟨v, cv, h5, r1, fun w => ?_, fun w => rfl⟩
        have := r2 w
        simp only [execOp]
        simp [this]
      · exact h.elim
    · exact h.elim
  · exact vp_ok hH hF (o := ⟨dst, op, ty, pos, after, guard⟩) h

theorem vtakeL_ok {K0 : Conc} {df : List Nat} {Kc : Fr → Heap → Prop} {Kf : Fr → Prop} {g : Nat} (hs : Region.noSelect ops = true) :
    ∀ {l : List Nat} {listed : Array Bool} {fr : Fr} {a : Act}, takeL ops l listed = true → SR E K N rd ro ⟨fr, H, df⟩ a w → vtakeL E N ops.toList l fr Kf →
    (∀ fr' a', SR E K N rd ro ⟨fr', H, df⟩ a' w → Kf fr' → wpAnyIn Fence.wide 0 E.P .any ops (XPost E K0 N rd ro df Kc) g (setL l listed) a' w) →
    wpAnyIn Fence.wide 0 E.P .any ops (XPost E K0 N rd ro df Kc) (l.length + g) listed a w
  | [], listed, fr, a, hB, hr, h, hk => by
    rw [List.length_nil, Nat.zero_add]
    exact hk fr a hr h
  | k :: l, listed, fr, a, hB, hr, h, hk => by
    simp only [takeL, Bool.and_eq_true] at hB
    simp only [vtakeL] at h
    split at h
    · rename_i o h0
      rw [Array.getElem?_toList] at h0
      split at h
      · rename_i hg
        obtain ⟨v, cv, hq, hv, hrun, hab⟩ := vp2_ok hr.H hr.F h
        obtain ⟨fr', h5, h6⟩ := vput_ok hq
        rw [List.length_cons, show l.length + 1 + g = (l.length + g) + 1 by omega]
        refine wpAnyIn_take (F := Fence.wide) (v := cv) rfl h0 hs hB.1.2 hB.1.1 (fun c a w hh => by cases hh.1) ⟨.inl ⟨by simp [Region.wanted, hg], hrun⟩, hab⟩ ?_
        exact vtakeL_ok hs hB.2 (fr := fr') ⟨hr.H, putd_sound hr.F hv h5, by cases o.dst <;> exact hr.D, hr.R⟩ h6 hk
      · exact h.elim
    · exact h.elim

theorem vall.two' {listed : Array Bool} {g i i' : Nat} {o o' : Oper} {Kc : Fr → Heap → Prop} (hr : Region.ready .any ops listed = [i, i']) (ho : ops.toList[i]? = some o) (ho' : ops.toList[i']? = some o')
    (h : vgd ops.toList fr o.guard (vopN E m fr H (fun v H' => vput N fr o.dst v fun fr' => vall E m N ops g (listed.setIfInBounds i true) fr' H' Kc) o.op o.type)
        (vput N fr o.dst (.tup []) fun fr' => vall E m N ops g (listed.setIfInBounds i true) fr' H Kc))
    (h' : vgd ops.toList fr o'.guard (vopN E m fr H (fun v H' => vput N fr o'.dst v fun fr' => vall E m N ops g (listed.setIfInBounds i' true) fr' H' Kc) o'.op o'.type)
        (vput N fr o'.dst (.tup []) fun fr' => vall E m N ops g (listed.setIfInBounds i' true) fr' H Kc)) : vall E m N ops (g + 1) listed fr H Kc :=
  vall.two hr (by rwa [Array.getElem?_toList] at ho) (by rwa [Array.getElem?_toList] at ho') h h'

/-- One step of 'vall', as it unfolds. -/
theorem vall.s1 {listed : Array Bool} {g i : Nat} {o : Oper} {Kc : Fr → Heap → Prop} (hr : Region.ready .any ops listed = [i]) (ho : ops.toList[i]? = some o)
    (h : vgd ops.toList fr o.guard (vopN E m fr H (fun v H' => vput N fr o.dst v fun fr' => vall E m N ops g (listed.setIfInBounds i true) fr' H' Kc) o.op o.type)
        (vput N fr o.dst (.tup []) fun fr' => vall E m N ops g (listed.setIfInBounds i true) fr' H Kc)) :
    Region.ready .any ops listed ≠ [] ∧ ∀ i ∈ Region.ready .any ops listed, ∃ o, ops[i]? = some o ∧
      vgd ops.toList fr o.guard (vopN E m fr H (fun v H' => vput N fr o.dst v fun fr' => vall E m N ops g (listed.setIfInBounds i true) fr' H' Kc) o.op o.type)
        (vput N fr o.dst (.tup []) fun fr' => vall E m N ops g (listed.setIfInBounds i true) fr' H Kc) :=
  vall.one hr (by rwa [Array.getElem?_toList] at ho) h
theorem vall.s2 {listed : Array Bool} {g i i' : Nat} {o o' : Oper} {Kc : Fr → Heap → Prop} (hr : Region.ready .any ops listed = [i, i']) (ho : ops.toList[i]? = some o) (ho' : ops.toList[i']? = some o')
    (h : vgd ops.toList fr o.guard (vopN E m fr H (fun v H' => vput N fr o.dst v fun fr' => vall E m N ops g (listed.setIfInBounds i true) fr' H' Kc) o.op o.type)
        (vput N fr o.dst (.tup []) fun fr' => vall E m N ops g (listed.setIfInBounds i true) fr' H Kc))
    (h' : vgd ops.toList fr o'.guard (vopN E m fr H (fun v H' => vput N fr o'.dst v fun fr' => vall E m N ops g (listed.setIfInBounds i' true) fr' H' Kc) o'.op o'.type)
        (vput N fr o'.dst (.tup []) fun fr' => vall E m N ops g (listed.setIfInBounds i' true) fr' H Kc)) :
    Region.ready .any ops listed ≠ [] ∧ ∀ i ∈ Region.ready .any ops listed, ∃ o, ops[i]? = some o ∧
      vgd ops.toList fr o.guard (vopN E m fr H (fun v H' => vput N fr o.dst v fun fr' => vall E m N ops g (listed.setIfInBounds i true) fr' H' Kc) o.op o.type)
        (vput N fr o.dst (.tup []) fun fr' => vall E m N ops g (listed.setIfInBounds i true) fr' H Kc) :=
  vall.two' hr ho ho' h h'

/-- The listed operations first; then every order of the other g leads to s0, up to the numbers of what was made. -/
theorem VDraw.xt (m : Bool) (ks : List Nat) (g : Nat) (s0 : St) {s : St} {id : Nat} {Q : Exit → St → Prop} (hrd : ∀ b, rd = some b → b < s.H.length) (hm : E.P.follows .mixedOrders = true) (hs : Region.noSelect ops = true) (hd : noDefer ops = true)
    (hB : takeL ops ks (Array.replicate ops.size false) = true) (hn : Nat.beq (ks.length + g) ops.size = true)
    (h : vtakeL E N ops.toList ks s.fr fun fr => vall E m N ops g (setL ks (Array.replicate ops.size false)) fr s.H fun fr H => ∃ σ, Trunc s.H.length σ ⟨fr, H, s.df⟩ s0) (hQ : Q .normal s0) : VDraw E N rd id ops Q s := by
  refine ⟨fun K ro a w hr => ?_⟩
  have hn := Nat.eq_of_beq_eq_true hn
  have hr' : SR E K N rd ro ⟨s.fr, s.H, s.df⟩ a w.drew := ⟨hr.H.drew, hr.F, hr.D, hr.R⟩
  have hw := vtakeL_ok (g := g) (K0 := K) (Kc := fun fr H => ∃ σ, Trunc s.H.length σ ⟨fr, H, s.df⟩ s0) hs hB hr' h (fun fr' a' hr2 hk => vall_ok (Ext.refl K) hr2 hk)
  rw [hn] at hw
  have hw2 := wpAnyIn_ro (ro := ro) hd hw
  refine wpIn_mono (wpIn_region_any hm hw2) fun e a' w' q => ?_
  obtain ⟨rfl, K', fr', H', hx, hr2, σ, ht⟩ := q
  obtain ⟨K3, hr3, hx3⟩ := hr2.cut hrd ht
  exact ⟨K3, s0, hx3 K hx (by rw [hr.H.len]; exact Nat.le_refl _), hr3, hQ⟩

end

end Go.Proofs.Ytoijfbdjlagooaa

/- Ranges over functions and their rounds, as they unfold. -/
namespace Go.Proofs.Ytoijfbdjlagooaa
open Go Go.RowKit
set_option linter.unusedVariables false
set_option linter.unusedSimpArgs false

/-- A code's ranges over functions: parameters, what is assigned, body. -/
def rangesOf : Code → List (Array Tmp × Code × Code)
  | .seq x y => rangesOf x ++ rangesOf y
  | .cond _ x y => rangesOf x ++ rangesOf y
  | .block _ c => rangesOf c
  | .scope c => rangesOf c
  | .loop c => rangesOf c
  | .rangeFunc _ ps a b => (ps, a, b) :: rangesOf b
  | _ => []
def nthRange (f : Func) (k : Nat) : Array Tmp × Code × Code := match f.body with
  | some c => ((rangesOf c)[k]?).getD (#[], .skip, .skip)
  | none => (#[], .skip, .skip)
/-- The record of a function's k-th range. -/
def rangeObj (f : Func) (k : Nat) (fr : Fr) (d : Nat) : AObj := .loop .ready none fr f.ntmps (nthRange f k).1 (nthRange f k).2.1 (nthRange f k).2.2 d

/-- What follows something in a code, each before those inside it. -/
def seqsOf : Code → List Code
  | .seq x y => y :: (seqsOf x ++ seqsOf y)
  | .cond _ x y => seqsOf x ++ seqsOf y
  | .block _ c => seqsOf c
  | .scope c => seqsOf c
  | .loop c => seqsOf c
  | .rangeFunc _ _ a b => seqsOf a ++ seqsOf b
  | _ => []
def nthSeq (f : Func) (k : Nat) : Code := match f.body with
  | some c => ((seqsOf c)[k]?).getD .skip
  | none => .skip

section
variable {E : Env} {m : Bool} {N : Nat} {rd : Option Nat} {Q : Exit → St → Prop} {s : St}

/-- What a range over a function owes once the function has been called. -/
def vloopEnd (E : Env) (m : Bool) (N : Nat) (rd : Option Nat) (b : Nat) (Q : Exit → St → Prop) (fr : Fr) (df : List Nat) (H2 : Heap) : Prop :=
  match H2[b]? with
  | some (.loop st pend _ _ _ _ _ _) => match st with
    | .busy => False
    | _ => match pend with
      | none => forceH (H2.set b .gone) fun H => Q .normal ⟨fr, H, df⟩
      | some c => forceH (H2.set b .gone) fun H => vcode E m N rd c Q ⟨fr, H, df⟩
  | _ => False

theorem vloopEnd_ok {b : Nat} {fr : Fr} {df : List Nat} {H2 : Heap} (h : vloopEnd E m N rd b Q fr df H2) : LoopEnd E N rd b Q fr df H2 := by
  unfold vloopEnd at h
  split at h
  · rename_i st pend fr' n ps asg body d hb
    split at h
    · exact h.elim
    · rename_i hst
      refine ⟨st, pend, fr', n, ps, asg, body, d, hb, hst, ?_⟩
      cases pend with
      | none => exact of_forceH h
      | some c => exact vcode_ok (of_forceH (Q := fun H => vcode E m N rd c Q ⟨fr, H, df⟩) h)
  · exact h.elim

/-- An outermost loop. -/
theorem VRange.out (m : Bool) {g : Operand} {ps : Array Tmp} {asg body : Code} {f : FuncId} {first cap : List AV} (hg : ev E s.fr g = some (.fn (.func f) first cap))
    (h : VCall E f (first ++ [.yld (s.H.length + 1)] ++ cap) (s.H ++ [.dfr, .loop .ready none s.fr N ps asg body s.H.length]) fun _ H2 => vloopEnd E m N none (s.H.length + 1) Q s.fr (s.H.length :: s.df) H2) :
    VRange E N none g ps asg body Q s := by
  obtain ⟨fn, h1, h2, h3⟩ := h.ok.ex
  exact ⟨AWp.rangeFunc hg h1 h2 h3 (h.call.mono fun v H2 q => vloopEnd_ok q)⟩

/-- A loop in the round of another. -/
theorem VRange.in_ (m : Bool) {b0 : Nat} {g : Operand} {ps : Array Tmp} {asg body : Code} {f : FuncId} {first cap : List AV} (hg : ev E s.fr g = some (.fn (.func f) first cap))
    {st : LoopState} {pend : Option Code} {fr' : Fr} {n : Nat} {ps' : Array Tmp} {asg' body' : Code} {d : Nat} (hb0 : s.H[b0]? = some (.loop st pend fr' n ps' asg' body' d))
    (h : VCall E f (first ++ [.yld s.H.length] ++ cap) (s.H ++ [.loop .ready none s.fr N ps asg body d]) fun _ H2 => vloopEnd E m N (some b0) s.H.length Q s.fr s.df H2) :
    VRange E N (some b0) g ps asg body Q s := by
  obtain ⟨fn, h1, h2, h3⟩ := h.ok.ex
  exact ⟨AWp.rangeFuncIn hg h1 h2 h3 hb0 (h.call.mono fun v H2 q => vloopEnd_ok q)⟩

def vroundPost (b : Nat) (R : AV → Heap → Prop) (e : Exit) (s : St) : Prop :=
  match s.H[b]? with
  | some (.loop st pend fr n ps asg body d) => match e with
    | .normal => forceH (s.H.set b (.loop .ready none fr n ps asg body d)) (R (.bool true))
    | .ret => forceH (s.H.set b (.loop .done (some .ret) fr n ps asg body d)) (R (.bool false))
    | .exit i => forceH (s.H.set b (.loop .done (some (.exit i)) fr n ps asg body d)) (R (.bool false))
    | _ => False
  | _ => False

theorem vroundPost_ok {b : Nat} {R : AV → Heap → Prop} {e : Exit} (h : vroundPost b R e s) : RoundPost b R e s := by
  unfold vroundPost at h
  split at h
  · rename_i st pend fr n ps asg body d hb
    refine ⟨st, pend, fr, n, ps, asg, body, d, hb, ?_⟩
    cases e with
    | normal => exact of_forceH h
    | ret => exact of_forceH h
    | exit i => exact of_forceH h
    | _ => exact h.elim
  · exact h.elim

def vround2 (E : Env) (m : Bool) (N : Nat) (b : Nat) (body : Code) (R : AV → Heap → Prop) (s1 : St) : Prop :=
  match s1.H[b]? with
  | some (.loop .ready pend1 fr1 n1 ps1 asg1 body1 d1) => forceH (s1.H.set b (.loop .busy pend1 fr1 n1 ps1 asg1 body1 d1)) fun H => vcode E m N (some b) body (vroundPost b R) ⟨s1.fr, H, s1.df⟩
  | _ => False

theorem VRound.of_body (m : Bool) {b : Nat} {args : List AV} {H : Heap} {R : AV → Heap → Prop} {pend : Option Code} {fr fr' : Fr} {ps : Array Tmp} {asg body : Code} {d : Nat} (hb : H[b]? = some (.loop .ready pend fr N ps asg body d)) (hl : args.length = ps.size)
    (hp : putArgs N (ps.toList.zip args) fr = some fr') (h : vcode E m N (some b) asg (Then (vround2 E m N b body R) (fun _ _ => False)) ⟨fr', H, []⟩) : VRound E b args H R := by
  refine ⟨ARound.of_body hb hl hp ((vcode_ok h).mono fun e s q => ?_)⟩
  cases e with
  | normal =>
    have q : vround2 E m N b body R s := q
    unfold vround2 at q
    split at q
    · rename_i pend1 fr1 n1 ps1 asg1 body1 d1 hb1
      exact ⟨pend1, fr1, n1, ps1, asg1, body1, d1, hb1, (vcode_ok (of_forceH (Q := fun H => vcode E m N (some b) body (vroundPost b R) ⟨s.fr, H, s.df⟩) q)).mono fun e s q => vroundPost_ok q⟩
    · exact q.elim
  | _ => exact q

def lowFr (n : Nat) : Fr → Prop
  | [] => True
  | (_, v) :: r => v.low n ∧ lowFr n r
theorem FzFr.sub {H : Heap} {n : Nat} {σ : List Nat} : ∀ {fr' fr : Fr}, lowFr n fr' → vsub fr' fr → FzFr H n σ fr' fr
  | [], fr, _, _ => trivial
  | (k, v) :: r, fr, h, hs => ⟨⟨v, hs.1, .same rfl h.1⟩, FzFr.sub h.2 hs.2⟩
theorem VRound.mono {b : Nat} {args : List AV} {H : Heap} {R R' : AV → Heap → Prop} (h : VRound E b args H R) (hq : ∀ v H, R v H → R' v H) : VRound E b args H R' := ⟨h.call.mono hq⟩
end

end Go.Proofs.Ytoijfbdjlagooaa

/- What a walk does by itself, said once. -/
namespace Go.Proofs.Ytoijfbdjlagooaa
open Go Go.RowKit
set_option linter.unusedVariables false

theorem InR.i64' {n : Int} (h1 : -9223372036854775808 ≤ n := by omega) (h2 : n < 9223372036854775808 := by omega) : InR .i64 n := InR.i64 h1 h2
theorem InR.u64' {n : Int} (h1 : 0 ≤ n := by omega) (h2 : n < 18446744073709551616 := by omega) : InR .u64 n := InR.u64 h1 h2
theorem InR.u32' {n : Int} (h1 : 0 ≤ n := by omega) (h2 : n < 4294967296 := by omega) : InR .u32 n := InR.u32 h1 h2
theorem InR.u8' {n : Int} (h1 : 0 ≤ n := by omega) (h2 : n < 256 := by omega) : InR .u8 n := InR.u8 h1 h2

/-- A side condition that falls by itself, and what comes behind it. -/
theorem sgo {A B : Prop} (h : B) (a : A := by
    first
    | rfl
    | exact live_of rfl
    | exact live_of (by assumption)
    | exact InR.i64'
    | exact InR.u64'
    | exact InR.u32'
    | exact InR.u8'
    | exact ⟨by omega, by omega⟩
    | omega
    | exact ⟨_, rfl⟩
    | exact IntAt.limbs (by omega)
    | exact IntAt.bl (by omega)
    | (simp only [length_limbs, getInt_limbs, length_bl, getInt_bl, Nat.mul_one, Nat.zero_add, Nat.zero_mul, Nat.sub_zero, tdiv_BB, tmod_BB, tdiv_nat, tmod_nat, List.length_cons, List.length_nil]; done)
    | ((try simp only [length_limbs, getInt_limbs, length_bl, getInt_bl, Nat.mul_one, Nat.zero_add, Nat.zero_mul, Nat.sub_zero, tdiv_BB, tmod_BB, tdiv_nat, tmod_nat, List.length_cons, List.length_nil]); first | exact InR.i64' | exact InR.u64' | exact InR.u32' | exact ⟨by omega, by omega, by omega⟩ | exact ⟨by omega, by omega⟩ | omega | exact IntAt.limbs (by omega) | exact IntAt.bl (by omega) | fail)
    | (refine ⟨?_, ?_, ?_, ?_⟩ <;> first | rfl | omega | ((try simp only [length_limbs, getInt_limbs, length_bl, getInt_bl, Nat.mul_one, Nat.zero_add, Nat.zero_mul, Nat.sub_zero, tdiv_BB, tmod_BB, tdiv_nat, tmod_nat, List.length_cons, List.length_nil]); first | done | rfl | omega | fail) | fail)
    | fail) : A ∧ B := ⟨a, h⟩

theorem dgo {N : Nat} {rd : Option Nat} {id : Nat} {ops : Array Oper} {Q : Exit → St → Prop} {s : St} (h : vq EE true N s.H ops.toList ops.toList s.fr fun fr => Q .normal ⟨fr, s.H, s.df⟩)
    (h1 : quietOps ops = true := by rfl) (h2 : Region.lexB .any ops = true := by kernel_rfl) (h3 : noDefer ops = true := by kernel_rfl) : VDraw EE N rd id ops Q s := VDraw.q true h1 mixed h2 h3 h
theorem ngo {N : Nat} {rd : Option Nat} {c : Code} {Q : Exit → St → Prop} {s : St} (h : vcode EE true N rd c Q s) : VNext EE N rd c Q s := VNext.go true h

/-- A call by itself. -/
theorem VCall.i {E : Env} {g : FuncId} {args : List AV} {H : Heap} {r : AV} {Q : AV → Heap → Prop} (h : VCall E g args [] fun v H => Fz H 0 [] v r) (k : Q r H)
    (hl : lowL 0 args := by (repeat' (first | exact trivial | exact low_natL 0 _ | exact low_limbs 0 _ | refine And.intro ?_ ?_ | fail))) : VCall E g args H Q := VCall.iso h hl k
theorem VCall.s {E : Env} {g : FuncId} {args : List AV} {H : Heap} {r : AV} {Q : AV → Heap → Prop} (h : VCall E g args [] fun v H => v = r) (k : Q r H)
    (hl : lowL 0 args := by (repeat' (first | exact trivial | exact low_natL 0 _ | exact low_limbs 0 _ | refine And.intro ?_ ?_ | fail)))
    (hr : r.low 0 := by (repeat' (first | exact trivial | exact low_natL 0 _ | exact low_limbs 0 _ | refine And.intro ?_ ?_ | fail))) : VCall E g args H Q := VCall.isoS h hr hl k

end Go.Proofs.Ytoijfbdjlagooaa


/- Contracts: order. -/
namespace Go.Proofs.Ytoijfbdjlagooaa
open Go Go.RowKit
set_option linter.unusedVariables false
set_option linter.unusedSimpArgs false
set_option maxRecDepth 100000

theorem order_c {a b : List Nat} (ha : canon a) (hb : canon b) (la : a.length < 1000000000) (lb : b.length < 1000000000) : VCall EE 76 [natL a, natL b] [] fun v H => v = .int .i64 (cmpN (val a) (val b)) := by
  refine VCall.of_body true Try.func76 rfl (by decide) rfl ?_
  repeat' ((conv => whnf); first | refine ngo ?_ | refine VB.tt ?_ | refine VB.ff ?_ | refine VNew.keep ?_ | refine dgo ?_ | refine sgo ?_ | fail)
  conv => whnf
  refine VB.ne (fun h => ?_) (fun h => ?_)
  · repeat' ((conv => whnf); first | refine ngo ?_ | refine VB.tt ?_ | refine VB.ff ?_ | refine VNew.keep ?_ | refine dgo ?_ | refine sgo ?_ | fail)
    conv => whnf
    refine VB.dec (fun h => ?_) (fun h => ?_)
    · repeat' ((conv => whnf); first | refine ngo ?_ | refine VB.tt ?_ | refine VB.ff ?_ | refine VNew.keep ?_ | refine dgo ?_ | refine sgo ?_ | fail)
      conv => whnf
      rw [cmpN_lt (canon_lt ha.1 hb (by omega))]
    · repeat' ((conv => whnf); first | refine ngo ?_ | refine VB.tt ?_ | refine VB.ff ?_ | refine VNew.keep ?_ | refine dgo ?_ | refine sgo ?_ | fail)
      conv => whnf
      rw [cmpN_gt (canon_lt hb.1 ha (by omega))]
  · repeat' ((conv => whnf); first | refine ngo ?_ | refine VB.tt ?_ | refine VB.ff ?_ | refine VNew.keep ?_ | refine dgo ?_ | refine sgo ?_ | fail)
    conv => whnf
    refine VLoop.ix true (fun i : Nat => ⟨[(0, natL a), (1, natL b), (5, .int .i64 (i - 1))], [], []⟩) (fun i => i ≤ a.length ∧ a.drop i = b.drop i) id a.length ⟨Nat.le_refl _, by rw [List.drop_length, List.drop_eq_nil_of_le (by omega)]⟩ ⟨⟨rfl, rfl, rfl, trivial⟩, rfl, rfl⟩ ?_
    rintro i ⟨hi, hd⟩
    repeat' ((conv => whnf); first | refine ngo ?_ | refine VB.tt ?_ | refine VB.ff ?_ | refine VNew.keep ?_ | refine dgo ?_ | refine sgo ?_ | fail)
    conv => whnf
    refine VB.dec (fun h => ?_) (fun h => ?_)
    · obtain ⟨i, rfl⟩ : ∃ k, i = k + 1 := ⟨i - 1, by omega⟩
      have ei : (((i + 1 : Nat) : Int) - 1).toNat = i := by omega
      repeat' ((conv => whnf); first | refine ngo ?_ | refine VB.tt ?_ | refine VB.ff ?_ | refine VNew.keep ?_ | refine dgo ?_ | refine sgo ?_ | fail)
      conv => whnf
      rw [ei, Nat.mul_one, getInt_limbs, getInt_limbs]
      refine VB.ne (fun h => ?_) (fun h => ?_)
      · repeat' ((conv => whnf); first | refine ngo ?_ | refine VB.tt ?_ | refine VB.ff ?_ | refine VNew.keep ?_ | refine dgo ?_ | refine sgo ?_ | fail)
        conv => whnf
        rw [ei, Nat.mul_one, getInt_limbs, getInt_limbs]
        refine VB.dec (fun h => ?_) (fun h => ?_)
        · repeat' ((conv => whnf); first | refine ngo ?_ | refine VB.tt ?_ | refine VB.ff ?_ | refine VNew.keep ?_ | refine dgo ?_ | refine sgo ?_ | fail)
          conv => whnf
          rw [cmpN_lt (val_lt_of ha.1 hb.1 (i := i) (by omega) (by omega) hd (by omega))]
        · repeat' ((conv => whnf); first | refine ngo ?_ | refine VB.tt ?_ | refine VB.ff ?_ | refine VNew.keep ?_ | refine dgo ?_ | refine sgo ?_ | fail)
          conv => whnf
          rw [cmpN_gt (val_lt_of hb.1 ha.1 (i := i) (by omega) (by omega) hd.symm (by omega))]
      · repeat' ((conv => whnf); first | refine ngo ?_ | refine VB.tt ?_ | refine VB.ff ?_ | refine VNew.keep ?_ | refine dgo ?_ | refine sgo ?_ | fail)
        conv => whnf
        refine ⟨i, ⟨by omega, ?_⟩, by simp, ⟨⟨rfl, rfl, by simp [lk], trivial⟩, rfl, rfl⟩⟩
        rw [List.drop_eq_getElem_cons (by omega), List.drop_eq_getElem_cons (l := b) (by omega), hd]
        simp [List.getD_eq_getElem?_getD, show i < a.length by omega, show i < b.length by omega] at h
        rw [Int.ofNat.inj h]
    · have : i = 0 := by omega
      subst this
      repeat' ((conv => whnf); first | refine ngo ?_ | refine VB.tt ?_ | refine VB.ff ?_ | refine VNew.keep ?_ | refine dgo ?_ | refine sgo ?_ | fail)
      conv => whnf
      rw [cmpN_eq (by simpa using congrArg val hd)]
end Go.Proofs.Ytoijfbdjlagooaa


/- Contracts: trim. -/
namespace Go.Proofs.Ytoijfbdjlagooaa
open Go Go.RowKit
set_option linter.unusedVariables false
set_option linter.unusedSimpArgs false
set_option maxRecDepth 100000

theorem dg_length_of {l : List Nat} {k : Nat} (hok : okL l) (hk : k ≤ l.length) (hv : val (l.take k) = val l) (hlast : k = 0 ∨ l.getD (k - 1) 0 ≠ 0) : (dg (val l)).length = k := by
  have hc : canon (l.take k) := by
    refine ⟨hok.take k, fun x hx => ?_⟩
    rcases hlast with rfl | h
    · simp at hx
    · by_cases hk0 : k = 0
      · subst hk0; simp at hx
      · rw [List.getLast?_eq_getElem?, List.length_take, Nat.min_eq_left hk, List.getElem?_take, if_pos (by omega)] at hx
        rw [List.getD_eq_getElem?_getD, hx] at h
        exact h
  rw [← hv, dg_val hc, List.length_take, Nat.min_eq_left hk]

theorem take_dg {l : List Nat} (hok : okL l) : l.take (dg (val l)).length = dg (val l) := by
  obtain ⟨k, hk⟩ := dg_append_zeros hok
  conv => lhs; rw [hk]
  rw [List.take_append_of_le_length (by rw [← hk]; exact Nat.le_refl _), ← hk, List.take_length]

theorem trim_own0 {R : Heap}  {ver e : Nat} {l : List Nat} (hok : okL l) (hl : l.length < 1000000000) :
    VCall EE 109 [.osl 0 ver 0 l.length 1] (.cells ver e (limbs l) :: R) fun v H' => H' = .cells ver e (limbs l) :: R ∧ v = .osl 0 ver 0 (dg (val l)).length 1 := by
  refine VCall.of_body true Try.func109 rfl (by decide) rfl ?_
  repeat' ((conv => whnf); first | refine ngo ?_ | refine VB.tt ?_ | refine VB.ff ?_ | refine VNew.keep ?_ | refine dgo ?_ | refine sgo ?_ | fail)
  conv => whnf
  refine VLoop.ix true (fun k : Nat => ⟨[(0, .osl 0 ver 0 k 1)], .cells ver e (limbs l) :: R, []⟩) (fun k => k ≤ l.length ∧ val (l.take k) = val l) id l.length ⟨Nat.le_refl _, by rw [List.take_length]⟩ ⟨⟨rfl, trivial⟩, rfl, rfl⟩ ?_
  rintro k ⟨hk, hv⟩
  repeat' ((conv => whnf); first | refine ngo ?_ | refine VB.tt ?_ | refine VB.ff ?_ | refine VNew.keep ?_ | refine dgo ?_ | refine sgo ?_ | fail)
  conv => whnf
  by_cases h0 : (k : Int) > 0
  · rw [decide_eq_true h0]
    obtain ⟨k, rfl⟩ : ∃ j, k = j + 1 := ⟨k - 1, by omega⟩
    have ek : (((k + 1 : Nat) : Int) - 1).toNat = k := by omega
    repeat' ((conv => whnf); first | refine ngo ?_ | refine VB.tt ?_ | refine VB.ff ?_ | refine VNew.keep ?_ | refine dgo ?_ | refine sgo ?_ | fail)
    conv => whnf
    rw [ek, Nat.mul_one, Nat.zero_add, getInt_limbs]
    refine VB.eq (fun h => ?_) (fun h => ?_)
    · repeat' ((conv => whnf); first | refine ngo ?_ | refine VB.tt ?_ | refine VB.ff ?_ | refine VNew.keep ?_ | refine dgo ?_ | refine sgo ?_ | fail)
      conv => whnf
      refine ⟨k, ⟨by omega, ?_⟩, by simp, ⟨⟨by simp only [lk, ek]; rfl, trivial⟩, rfl, rfl⟩⟩
      rw [val_take_succ (by omega)] at hv
      rw [show l.getD k 0 = 0 by omega] at hv
      omega
    · repeat' ((conv => whnf); first | refine ngo ?_ | refine VB.tt ?_ | refine VB.ff ?_ | refine VNew.keep ?_ | refine dgo ?_ | refine sgo ?_ | fail)
      conv => whnf
      rw [dg_length_of hok hk hv (.inr (by rw [Nat.add_sub_cancel]; omega))]
      exact to_forceH ⟨rfl, rfl⟩
  · rw [decide_eq_false h0]
    have : k = 0 := by omega
    subst this
    repeat' ((conv => whnf); first | refine ngo ?_ | refine VB.tt ?_ | refine VB.ff ?_ | refine VNew.keep ?_ | refine dgo ?_ | refine sgo ?_ | fail)
    conv => whnf
    rw [dg_length_of hok hk hv (.inl rfl)]
    exact to_forceH ⟨rfl, rfl⟩
theorem trim_own1 {R : Heap} {x0 : AObj}  {ver e : Nat} {l : List Nat} (hok : okL l) (hl : l.length < 1000000000) :
    VCall EE 109 [.osl 1 ver 0 l.length 1] (x0 :: .cells ver e (limbs l) :: R) fun v H' => H' = x0 :: .cells ver e (limbs l) :: R ∧ v = .osl 1 ver 0 (dg (val l)).length 1 := by
  refine VCall.of_body true Try.func109 rfl (by decide) rfl ?_
  repeat' ((conv => whnf); first | refine ngo ?_ | refine VB.tt ?_ | refine VB.ff ?_ | refine VNew.keep ?_ | refine dgo ?_ | refine sgo ?_ | fail)
  conv => whnf
  refine VLoop.ix true (fun k : Nat => ⟨[(0, .osl 1 ver 0 k 1)], x0 :: .cells ver e (limbs l) :: R, []⟩) (fun k => k ≤ l.length ∧ val (l.take k) = val l) id l.length ⟨Nat.le_refl _, by rw [List.take_length]⟩ ⟨⟨rfl, trivial⟩, rfl, rfl⟩ ?_
  rintro k ⟨hk, hv⟩
  repeat' ((conv => whnf); first | refine ngo ?_ | refine VB.tt ?_ | refine VB.ff ?_ | refine VNew.keep ?_ | refine dgo ?_ | refine sgo ?_ | fail)
  conv => whnf
  by_cases h0 : (k : Int) > 0
  · rw [decide_eq_true h0]
    obtain ⟨k, rfl⟩ : ∃ j, k = j + 1 := ⟨k - 1, by omega⟩
    have ek : (((k + 1 : Nat) : Int) - 1).toNat = k := by omega
    repeat' ((conv => whnf); first | refine ngo ?_ | refine VB.tt ?_ | refine VB.ff ?_ | refine VNew.keep ?_ | refine dgo ?_ | refine sgo ?_ | fail)
    conv => whnf
    rw [ek, Nat.mul_one, Nat.zero_add, getInt_limbs]
    refine VB.eq (fun h => ?_) (fun h => ?_)
    · repeat' ((conv => whnf); first | refine ngo ?_ | refine VB.tt ?_ | refine VB.ff ?_ | refine VNew.keep ?_ | refine dgo ?_ | refine sgo ?_ | fail)
      conv => whnf
      refine ⟨k, ⟨by omega, ?_⟩, by simp, ⟨⟨by simp only [lk, ek]; rfl, trivial⟩, rfl, rfl⟩⟩
      rw [val_take_succ (by omega)] at hv
      rw [show l.getD k 0 = 0 by omega] at hv
      omega
    · repeat' ((conv => whnf); first | refine ngo ?_ | refine VB.tt ?_ | refine VB.ff ?_ | refine VNew.keep ?_ | refine dgo ?_ | refine sgo ?_ | fail)
      conv => whnf
      rw [dg_length_of hok hk hv (.inr (by rw [Nat.add_sub_cancel]; omega))]
      exact to_forceH (H := x0 :: .cells ver e (limbs l) :: R) (Q := fun H' => H' = x0 :: .cells ver e (limbs l) :: R ∧ (AV.osl 1 ver 0 _ 1) = .osl 1 ver 0 _ 1) ⟨rfl, rfl⟩
  · rw [decide_eq_false h0]
    have : k = 0 := by omega
    subst this
    repeat' ((conv => whnf); first | refine ngo ?_ | refine VB.tt ?_ | refine VB.ff ?_ | refine VNew.keep ?_ | refine dgo ?_ | refine sgo ?_ | fail)
    conv => whnf
    rw [dg_length_of hok hk hv (.inl rfl)]
    exact to_forceH (H := x0 :: .cells ver e (limbs l) :: R) (Q := fun H' => H' = x0 :: .cells ver e (limbs l) :: R ∧ (AV.osl 1 ver 0 _ 1) = .osl 1 ver 0 _ 1) ⟨rfl, rfl⟩
theorem trim_own2 {R : Heap} {x0 x1 : AObj}  {ver e : Nat} {l : List Nat} (hok : okL l) (hl : l.length < 1000000000) :
    VCall EE 109 [.osl 2 ver 0 l.length 1] (x0 :: x1 :: .cells ver e (limbs l) :: R) fun v H' => H' = x0 :: x1 :: .cells ver e (limbs l) :: R ∧ v = .osl 2 ver 0 (dg (val l)).length 1 := by
  refine VCall.of_body true Try.func109 rfl (by decide) rfl ?_
  repeat' ((conv => whnf); first | refine ngo ?_ | refine VB.tt ?_ | refine VB.ff ?_ | refine VNew.keep ?_ | refine dgo ?_ | refine sgo ?_ | fail)
  conv => whnf
  refine VLoop.ix true (fun k : Nat => ⟨[(0, .osl 2 ver 0 k 1)], x0 :: x1 :: .cells ver e (limbs l) :: R, []⟩) (fun k => k ≤ l.length ∧ val (l.take k) = val l) id l.length ⟨Nat.le_refl _, by rw [List.take_length]⟩ ⟨⟨rfl, trivial⟩, rfl, rfl⟩ ?_
  rintro k ⟨hk, hv⟩
  repeat' ((conv => whnf); first | refine ngo ?_ | refine VB.tt ?_ | refine VB.ff ?_ | refine VNew.keep ?_ | refine dgo ?_ | refine sgo ?_ | fail)
  conv => whnf
  by_cases h0 : (k : Int) > 0
  · rw [decide_eq_true h0]
    obtain ⟨k, rfl⟩ : ∃ j, k = j + 1 := ⟨k - 1, by omega⟩
    have ek : (((k + 1 : Nat) : Int) - 1).toNat = k := by omega
    repeat' ((conv => whnf); first | refine ngo ?_ | refine VB.tt ?_ | refine VB.ff ?_ | refine VNew.keep ?_ | refine dgo ?_ | refine sgo ?_ | fail)
    conv => whnf
    rw [ek, Nat.mul_one, Nat.zero_add, getInt_limbs]
    refine VB.eq (fun h => ?_) (fun h => ?_)
    · repeat' ((conv => whnf); first | refine ngo ?_ | refine VB.tt ?_ | refine VB.ff ?_ | refine VNew.keep ?_ | refine dgo ?_ | refine sgo ?_ | fail)
      conv => whnf
      refine ⟨k, ⟨by omega, ?_⟩, by simp, ⟨⟨by simp only [lk, ek]; rfl, trivial⟩, rfl, rfl⟩⟩
      rw [val_take_succ (by omega)] at hv
      rw [show l.getD k 0 = 0 by omega] at hv
      omega
    · repeat' ((conv => whnf); first | refine ngo ?_ | refine VB.tt ?_ | refine VB.ff ?_ | refine VNew.keep ?_ | refine dgo ?_ | refine sgo ?_ | fail)
      conv => whnf
      rw [dg_length_of hok hk hv (.inr (by rw [Nat.add_sub_cancel]; omega))]
      exact to_forceH (H := x0 :: x1 :: .cells ver e (limbs l) :: R) (Q := fun H' => H' = x0 :: x1 :: .cells ver e (limbs l) :: R ∧ (AV.osl 2 ver 0 _ 1) = .osl 2 ver 0 _ 1) ⟨rfl, rfl⟩
  · rw [decide_eq_false h0]
    have : k = 0 := by omega
    subst this
    repeat' ((conv => whnf); first | refine ngo ?_ | refine VB.tt ?_ | refine VB.ff ?_ | refine VNew.keep ?_ | refine dgo ?_ | refine sgo ?_ | fail)
    conv => whnf
    rw [dg_length_of hok hk hv (.inl rfl)]
    exact to_forceH (H := x0 :: x1 :: .cells ver e (limbs l) :: R) (Q := fun H' => H' = x0 :: x1 :: .cells ver e (limbs l) :: R ∧ (AV.osl 2 ver 0 _ 1) = .osl 2 ver 0 _ 1) ⟨rfl, rfl⟩
end Go.Proofs.Ytoijfbdjlagooaa


/- Contracts: products. -/
namespace Go.Proofs.Ytoijfbdjlagooaa
open Go Go.RowKit
set_option linter.unusedVariables false
set_option linter.unusedSimpArgs false
set_option maxRecDepth 100000

theorem val_set {l : List Nat} {j : Nat} (h : j < l.length) (c : Nat) : val (l.set j c) + BB ^ j * l.getD j 0 = val l + BB ^ j * c := by
  have e : l.set j c = l.take j ++ c :: l.drop (j + 1) := by rw [List.set_eq_take_append_cons_drop, if_pos h]
  rw [e, val_append, List.length_take, Nat.min_eq_left (by omega), val_split h, val]
  simp only [Nat.mul_add]
  omega
theorem okL_set {l : List Nat} (h : okL l) (j : Nat) {c : Nat} (hc : c < BB) : okL (l.set j c) := by
  intro x hx
  rcases List.mem_or_eq_of_mem_set hx with h1 | rfl
  · exact h x h1
  · exact hc
theorem getD_lt {l : List Nat} (h : okL l) (i : Nat) : l.getD i 0 < BB := by
  rw [List.getD_eq_getElem?_getD]
  cases e : l[i]? with
  | none => decide
  | some x => exact h x (List.mem_of_getElem? e)
theorem getD_zero_of_lt {l : List Nat} (h : okL l) {i : Nat} (hv : val l < BB ^ i) : l.getD i 0 = 0 := by
  rw [getD_val h, Nat.div_eq_of_lt hv]
  rfl
theorem mul_lt_BB {x y c d : Nat} (hx : x < BB) (hy : y < BB) (hc : c < BB) (hd : d < BB) : d + x * y + c < BB * BB := by
  have := Nat.mul_le_mul (Nat.le_sub_one_of_lt hx) (Nat.le_sub_one_of_lt hy)
  have e : (BB - 1) * (BB - 1) = 999999998000000001 := by decide
  unfold BB at *
  omega

theorem product_own {a b : List Nat} (ha : okL a) (hb : okL b) (la : a.length < 100000000) (lb : b.length < 100000000) :
    VCall EE 95 [natL a, natL b] [] fun v H => ∃ l, okL l ∧ val l = val a * val b ∧ H = [.cells 0 41 (limbs l)] ∧ v = .osl 0 0 0 (dg (val a * val b)).length 1 := by
  refine VCall.of_body true Try.func95 rfl (by decide) rfl ?_
  repeat' ((conv => whnf); first | refine ngo ?_ | refine VB.tt ?_ | refine VB.ff ?_ | refine VNew.keep ?_ | refine dgo ?_ | refine sgo ?_ | fail)
  conv => whnf
  refine VLoop.ix true (fun x : Nat × List Nat => ⟨[(1, natL b), (5, .osl 0 0 0 x.2.length 1), (18, natL a), (19, .int .i64 a.length), (20, .int .i64 x.1)], [.cells 0 41 (limbs x.2)], []⟩)
    (fun x => x.1 ≤ a.length ∧ x.2.length = a.length + b.length ∧ okL x.2 ∧ val x.2 = val (a.take x.1) * val b) (fun x => a.length - x.1) (0, List.replicate (a.length + b.length) 0)
    ⟨Nat.zero_le _, by simp, okL_zeros _, by simp [val_zeros, val]⟩ ⟨⟨rfl, by simp [lk]; omega, rfl, rfl, rfl, trivial⟩, by show [AObj.cells 0 _ (reps _ _)] = _; rw [show ((a.length : Int) + (b.length : Int)).toNat = a.length + b.length by omega]; exact congrArg (fun x => [AObj.cells 0 41 x]) (limbs_zeros _), rfl⟩ ?_
  rintro ⟨i, l⟩ ⟨hi, hll, hok, hv⟩
  dsimp only at hi hll hok hv ⊢
  repeat' ((conv => whnf); first | refine ngo ?_ | refine VB.tt ?_ | refine VB.ff ?_ | refine VNew.keep ?_ | refine dgo ?_ | refine sgo ?_ | fail)
  conv => whnf
  refine VB.dec (fun h => ?_) (fun h => ?_)
  · repeat' ((conv => whnf); first | refine ngo ?_ | refine VB.tt ?_ | refine VB.ff ?_ | refine VNew.keep ?_ | refine dgo ?_ | refine sgo ?_ | fail)
    conv => whnf
    have hvl : val l < BB ^ (i + b.length) := by
      rw [hv, Nat.pow_add]
      have h1 := val_lt (ha.take i)
      rw [List.length_take, Nat.min_eq_left (by omega)] at h1
      exact Nat.mul_lt_mul'' h1 (val_lt hb)
    have hx := getD_lt ha i
    generalize hxx : a.getD i 0 = x at hx
    refine VLoop.ix true (fun y : Nat × List Nat × Nat => ⟨[(1, natL b), (5, .osl 0 0 0 y.2.1.length 1), (6, .int .i64 i), (7, .int .u32 x), (8, .int .u64 y.2.2), (18, natL a), (19, .int .i64 a.length), (20, .int .i64 i), (25, natL b), (26, .int .i64 b.length), (27, .int .i64 y.1)], [.cells 0 41 (limbs y.2.1)], []⟩)
      (fun y => y.1 ≤ b.length ∧ y.2.1.length = a.length + b.length ∧ okL y.2.1 ∧ y.2.2 < BB ∧ y.2.1.getD (i + b.length) 0 = 0 ∧ val y.2.1 + BB ^ (i + y.1) * y.2.2 = val (a.take i) * val b + BB ^ i * (x * val (b.take y.1))) (fun y => b.length - y.1) (0, l, 0)
      ⟨Nat.zero_le _, hll, hok, Nat.zero_lt_succ _, getD_zero_of_lt hok hvl, by simp [hv, val]⟩ ⟨⟨rfl, rfl, rfl, ?_, rfl, rfl, rfl, rfl, rfl, rfl, rfl, trivial⟩, rfl, rfl⟩ ?_
    · simp [lk, getInt_limbs, ← hxx]
    rintro ⟨k, m, c⟩ ⟨hk, hml, hmok, hc, hz, hmv⟩
    dsimp only at hk hml hmok hc hz hmv ⊢
    repeat' ((conv => whnf); first | refine ngo ?_ | refine VB.tt ?_ | refine VB.ff ?_ | refine VNew.keep ?_ | refine dgo ?_ | refine sgo ?_ | fail)
    conv => whnf
    refine VB.dec (fun hkb => ?_) (fun hkb => ?_)
    · have hy := getD_lt hb k
      have hd := getD_lt hmok (i + k)
      have hBB : BB = 1000000000 := rfl
      have e1 : ((i : Int) + (k : Int)).toNat = i + k := by omega
      have hp := mul_lt_BB hx hy hc hd
      have hBB2 : BB * BB = 1000000000000000000 := rfl
      generalize hyy : b.getD k 0 = y at *
      generalize hdd : m.getD (i + k) 0 = d at *
      have g1 : getInt (List.drop (0 + ((i : Int) + (k : Int)).toNat * 1) (limbs m)) = (d : Int) := by rw [e1, Nat.zero_add, Nat.mul_one, getInt_limbs, hdd]
      have g2 : getInt (List.drop ((k : Int).toNat * 1) (limbs b)) = (y : Int) := by rw [Int.toNat_natCast, Nat.mul_one, getInt_limbs, hyy]
      repeat' ((conv => whnf); first | refine ngo ?_ | refine VB.tt ?_ | refine VB.ff ?_ | refine VNew.keep ?_ | refine dgo ?_ | refine sgo ?_ | fail)
      conv => whnf
      rw [g1]
      repeat' ((conv => whnf); first | refine ngo ?_ | refine VB.tt ?_ | refine VB.ff ?_ | refine VNew.keep ?_ | refine dgo ?_ | refine sgo ?_ | fail)
      conv => whnf
      rw [g2]
      obtain ⟨n, hn⟩ : ∃ n, n = d + x * y + c := ⟨_, rfl⟩
      have g0 : (d : Int) + (x : Int) * (y : Int) + (c : Int) = (n : Int) := by rw [hn]; simp
      have hm := Nat.mod_lt n (show 0 < BB by decide)
      have hdv : n / BB < BB := Nat.div_lt_of_lt_mul (by omega)
      have hmd := Nat.mod_add_div n BB
      have g5 := tdiv_BB n
      have g6 := tmod_BB n
      generalize n / BB = q at *
      generalize n % BB = r at *
      repeat' ((conv => whnf); first | refine ngo ?_ | refine VB.tt ?_ | refine VB.ff ?_ | refine VNew.keep ?_ | refine dgo ?_ | refine sgo ?_ | fail)
      conv => whnf
      rw [g0, g6]
      repeat' ((conv => whnf); first | refine ngo ?_ | refine VB.tt ?_ | refine VB.ff ?_ | refine VNew.keep ?_ | refine dgo ?_ | refine sgo ?_ | fail)
      conv => whnf
      rw [g5]
      repeat' ((conv => whnf); first | refine ngo ?_ | refine VB.tt ?_ | refine VB.ff ?_ | refine VNew.keep ?_ | refine dgo ?_ | refine sgo ?_ | fail)
      conv => whnf
      refine ⟨(k + 1, m.set (i + k) r, q), ⟨by omega, by simpa using hml, okL_set hmok _ hm, hdv, ?_, ?_⟩, by dsimp only; omega, ⟨⟨rfl, ?_, rfl, rfl, rfl, rfl, rfl, rfl, rfl, rfl, rfl, trivial⟩, ?_, rfl⟩⟩
      · dsimp only
        rw [List.getD_eq_getElem?_getD, List.getElem?_set_ne (by omega), ← List.getD_eq_getElem?_getD]
        exact hz
      · dsimp only
        have hs := val_set (l := m) (j := i + k) (by omega) r
        have ht := val_take_succ (l := b) (i := k) (by omega)
        rw [hdd] at hs
        rw [hyy] at ht
        rw [ht]
        have e2 : BB ^ (i + (k + 1)) * q = BB ^ (i + k) * (BB * q) := by rw [← Nat.add_assoc, Nat.pow_succ, Nat.mul_assoc]
        have e3 : BB ^ (i + k) * r + BB ^ (i + k) * (BB * q) = BB ^ (i + k) * d + BB ^ (i + k) * (x * y) + BB ^ (i + k) * c := by
          rw [← Nat.mul_add, hmd, hn, Nat.mul_add, Nat.mul_add]
        have e4 : BB ^ i * (x * (val (b.take k) + BB ^ k * y)) = BB ^ i * (x * val (b.take k)) + BB ^ (i + k) * (x * y) := by
          rw [Nat.mul_add, Nat.mul_add, Nat.pow_add]
          congr 1
          rw [Nat.mul_assoc, ← Nat.mul_assoc x, ← Nat.mul_assoc (BB ^ k), Nat.mul_comm x (BB ^ k)]
        omega
      · simp [lk]
      · show [AObj.cells 0 _ (splice _ _ _)] = _
        rw [e1, Nat.zero_add, Nat.mul_one, splice_limbs (by omega)]
    · have hkl : k = b.length := by omega
      subst hkl
      have hBB : BB = 1000000000 := rfl
      rw [List.take_length] at hmv
      repeat' ((conv => whnf); first | refine ngo ?_ | refine VB.tt ?_ | refine VB.ff ?_ | refine VNew.keep ?_ | refine dgo ?_ | refine sgo ?_ | fail)
      conv => whnf
      refine ⟨(i + 1, m.set (i + b.length) c), ⟨by omega, by simpa using hml, okL_set hmok _ hc, ?_⟩, by dsimp only; omega, ⟨⟨rfl, ?_, rfl, rfl, rfl, trivial⟩, ?_, rfl⟩⟩
      · dsimp only
        have hs := val_set (l := m) (j := i + b.length) (by omega) c
        rw [hz] at hs
        have ht := val_take_succ (l := a) (i := i) (by omega)
        rw [hxx] at ht
        rw [ht, Nat.add_mul, Nat.mul_assoc]
        omega
      · simp [lk]
      · show [AObj.cells 0 _ (splice _ _ _)] = _
        rw [show ((i : Int) + (b.length : Int)).toNat = i + b.length by omega, Nat.zero_add, Nat.mul_one, splice_limbs (by omega)]
  · repeat' ((conv => whnf); first | refine ngo ?_ | refine VB.tt ?_ | refine VB.ff ?_ | refine VNew.keep ?_ | refine dgo ?_ | refine sgo ?_ | fail)
    conv => whnf
    have hil : i = a.length := by omega
    subst hil
    rw [List.take_length] at hv
    refine (trim_own0 hok (by omega)).mono fun v H' hq => ?_
    obtain ⟨rfl, rfl⟩ := hq
    repeat' ((conv => whnf); first | refine ngo ?_ | refine VB.tt ?_ | refine VB.ff ?_ | refine VNew.keep ?_ | refine dgo ?_ | refine sgo ?_ | fail)
    conv => whnf
    exact ⟨l, hok, hv, rfl, by rw [hv]⟩
end Go.Proofs.Ytoijfbdjlagooaa


/- Contracts: limbs of a number. -/
namespace Go.Proofs.Ytoijfbdjlagooaa
open Go Go.RowKit
set_option linter.unusedVariables false
set_option linter.unusedSimpArgs false
set_option maxRecDepth 100000

def accV : List Nat → AV
  | [] => .nsl
  | x :: l => .osl 0 l.length 0 (l.length + 1) 1
def accH (T : TypeId) : List Nat → Heap
  | [] => []
  | x :: l => [.cells l.length T (limbs (x :: l))]

theorem accV_fz (T : TypeId) (l : List Nat) : Fz (accH T l) 0 [] (accV l) (natL l) := by
  cases l with
  | nil => exact .nsl
  | cons x l => exact .nat (Nat.zero_le _) (by simp) rfl (by rw [Nat.mul_one]; exact List.take_of_length_le (by simp [limbs])) rfl

theorem of_c (n : Nat) (hn : n < 18446744073709551616) : VCall EE 107 [.int .u64 n] [] fun v H => Fz H 0 [] v (natv n) := by
  refine VCall.of_body true Try.func107 rfl (by decide) rfl ?_
  repeat' ((conv => whnf); first | refine ngo ?_ | refine VB.tt ?_ | refine VB.ff ?_ | refine VNew.keep ?_ | refine dgo ?_ | refine sgo ?_ | fail)
  conv => whnf
  refine VLoop.tr true (fun x : List Nat × Nat => ⟨[(0, .int .u64 x.2), (3, accV x.1)], accH 41 x.1, []⟩) (fun x => x.2 ≤ n ∧ x.1 ++ dg x.2 = dg n) (fun x => x.2) ([], n) ⟨Nat.le_refl _, rfl⟩ ⟨⟨rfl, rfl, trivial⟩, rfl, rfl⟩ ?_
  rintro ⟨l, r⟩ ⟨hr, he⟩
  dsimp only at hr he ⊢
  have hl : l.length < 1000000 := by
    have h1 := congrArg List.length he
    have h2 : (dg n).length ≤ 3 := length_dg_lt (Nat.lt_of_lt_of_le hn (by decide))
    rw [List.length_append] at h1
    omega
  repeat' ((conv => whnf); first | refine ngo ?_ | refine VB.tt ?_ | refine VB.ff ?_ | refine VNew.keep ?_ | refine dgo ?_ | refine sgo ?_ | fail)
  conv => whnf
  refine VB.dec (fun h => ?_) (fun h => ?_)
  · have g5 := tdiv_BB r
    have g6 := tmod_BB r
    have hm := Nat.mod_lt r (show 0 < BB by decide)
    have hdv : r / BB < r := Nat.div_lt_self (by omega) (by decide)
    have hdg := dg_pos (n := r) (by omega)
    have hBB : BB = 1000000000 := rfl
    generalize r / BB = q at *
    generalize r % BB = m at *
    cases l with
    | nil =>
      repeat' ((conv => whnf); first | refine ngo ?_ | refine VB.tt ?_ | refine VB.ff ?_ | refine VNew.keep ?_ | refine dgo ?_ | refine sgo ?_ | fail)
      conv => whnf
      rw [g6]
      repeat' ((conv => whnf); first | refine ngo ?_ | refine VB.tt ?_ | refine VB.ff ?_ | refine VNew.keep ?_ | refine dgo ?_ | refine sgo ?_ | fail)
      conv => whnf
      refine ⟨([m], q), ⟨by dsimp only; omega, by simpa [hdg] using he⟩, hdv, [1], by simp, by simp, ⟨⟨_, rfl, .cells rfl (FzL.same rfl (low_limbs _ [m]))⟩, trivial⟩, ⟨⟨_, rfl, .same (by rw [g5]) trivial⟩, ⟨_, rfl, .kosl (j := 0) rfl rfl rfl rfl⟩, trivial⟩, rfl, by simp⟩
    | cons x l =>
      simp only [List.length_cons] at hl
      repeat' ((conv => whnf); first | refine ngo ?_ | refine VB.tt ?_ | refine VB.ff ?_ | refine VNew.keep ?_ | refine dgo ?_ | refine sgo ?_ | fail)
      conv => whnf
      rw [g6]
      repeat' ((conv => whnf); first | refine ngo ?_ | refine VB.tt ?_ | refine VB.ff ?_ | refine VNew.keep ?_ | refine dgo ?_ | refine sgo ?_ | fail)
      conv => whnf
      refine ⟨(x :: l ++ [m], q), ⟨by dsimp only; omega, by simpa [hdg] using he⟩, hdv, [0], by simp, by simp, ⟨⟨_, rfl, .cells (by simp) (FzL.same ?_ (low_limbs _ (x :: l ++ [m])))⟩, trivial⟩, ⟨⟨_, rfl, .same (by rw [g5]) trivial⟩, ⟨_, rfl, .kosl (j := 0) rfl rfl (by simp) (by simp)⟩, trivial⟩, rfl, by simp⟩
      rw [Nat.mul_one, List.take_of_length_le (by simp [limbs])]
      simp [limbs]
  · have : r = 0 := by omega
    subst this
    rw [dg_zero, List.append_nil] at he
    cases l with
    | nil =>
      repeat' ((conv => whnf); first | refine ngo ?_ | refine VB.tt ?_ | refine VB.ff ?_ | refine VNew.keep ?_ | refine dgo ?_ | refine sgo ?_ | fail)
      conv => whnf
      rw [natv, ← he]
      exact .nsl
    | cons x l =>
      repeat' ((conv => whnf); first | refine ngo ?_ | refine VB.tt ?_ | refine VB.ff ?_ | refine VNew.keep ?_ | refine dgo ?_ | refine sgo ?_ | fail)
      conv => whnf
      rw [natv, ← he]
      exact accV_fz 41 (x :: l)
end Go.Proofs.Ytoijfbdjlagooaa


/- Contracts: copies, quotients by one limb. -/
namespace Go.Proofs.Ytoijfbdjlagooaa
open Go Go.RowKit
set_option linter.unusedVariables false
set_option linter.unusedSimpArgs false
set_option maxRecDepth 100000

theorem clone_c (l : List Nat) (hl : l.length < 1000000000) : VCall EE 92 [natL l] [] fun v H => Fz H 0 [] v (natL l) := by
  refine VCall.of_body true Try.func92 rfl (by decide) rfl ?_
  repeat' ((conv => whnf); first | refine ngo ?_ | refine VB.tt ?_ | refine VB.ff ?_ | refine VNew.keep ?_ | refine dgo ?_ | refine sgo ?_ | fail)
  conv => whnf
  intro b hb
  repeat' ((conv => whnf); first | refine ngo ?_ | refine VB.tt ?_ | refine VB.ff ?_ | refine VNew.keep ?_ | refine dgo ?_ | refine sgo ?_ | fail)
  conv => whnf
  refine VB.mk (fun h => ?_) (fun h => ?_)
  · have : l = [] := by
      have := hb h
      cases l with
      | nil => rfl
      | cons x l => cases this
    subst this
    repeat' ((conv => whnf); first | refine ngo ?_ | refine VB.tt ?_ | refine VB.ff ?_ | refine VNew.keep ?_ | refine dgo ?_ | refine sgo ?_ | fail)
    conv => whnf
    exact .nsl
  · repeat' ((conv => whnf); first | refine ngo ?_ | refine VB.tt ?_ | refine VB.ff ?_ | refine VNew.keep ?_ | refine dgo ?_ | refine sgo ?_ | fail)
    conv => whnf
    exact .nat (Nat.zero_le _) (by simp) rfl (by rw [Nat.mul_one, Nat.zero_add]; exact List.take_of_length_le (by simp [limbs])) (by simp)

theorem small_own {a : List Nat} {d : Nat} (ha : okL a) (la : a.length < 100000000) (hd : 0 < d) (hd2 : d < BB) :
    VCall EE 112 [natL a, .int .u64 d] [] fun v H => ∃ l, okL l ∧ val l = val a / d ∧ H = [.cells 0 41 (limbs l)] ∧ v = .tup [.osl 0 0 0 (dg (val a / d)).length 1, .int .u64 ((val a % d : Nat) : Int)] := by
  refine VCall.of_body true Try.func112 rfl (by decide) rfl ?_
  repeat' ((conv => whnf); first | refine ngo ?_ | refine VB.tt ?_ | refine VB.ff ?_ | refine VNew.keep ?_ | refine dgo ?_ | refine sgo ?_ | fail)
  conv => whnf
  refine VLoop.ix true (fun x : Nat × List Nat × Nat => ⟨[(0, natL a), (1, .int .u64 d), (6, .osl 0 0 0 x.2.1.length 1), (7, .int .u64 x.2.2), (8, .int .i64 (x.1 - 1))], [.cells 0 41 (limbs x.2.1)], []⟩)
    (fun x => x.1 ≤ a.length ∧ x.2.1.length = a.length ∧ okL x.2.1 ∧ x.2.2 < d ∧ val (x.2.1.take x.1) = 0 ∧ val (x.2.1.drop x.1) * d + x.2.2 = val (a.drop x.1)) (fun x => x.1) (a.length, List.replicate a.length 0, 0)
    ⟨Nat.le_refl _, by simp, okL_zeros _, hd, by simp [val_zeros], by simp [val]⟩ ⟨⟨rfl, rfl, by simp [lk], rfl, rfl, trivial⟩, ?_, rfl⟩ ?_
  · show [AObj.cells 0 _ (reps _ _)] = _
    rw [Int.toNat_natCast]
    exact congrArg (fun x => [AObj.cells 0 41 x]) (limbs_zeros _)
  rintro ⟨i, l, r⟩ ⟨hi, hll, hok, hr, hz, hv⟩
  dsimp only at hi hll hok hr hz hv ⊢
  repeat' ((conv => whnf); first | refine ngo ?_ | refine VB.tt ?_ | refine VB.ff ?_ | refine VNew.keep ?_ | refine dgo ?_ | refine sgo ?_ | fail)
  conv => whnf
  refine VB.dec (fun h => ?_) (fun h => ?_)
  · obtain ⟨i, rfl⟩ : ∃ k, i = k + 1 := ⟨i - 1, by omega⟩
    have ei : (((i + 1 : Nat) : Int) - 1).toNat = i := by omega
    have hx := getD_lt ha i
    have hBB : BB = 1000000000 := rfl
    have g1 : getInt (List.drop ((((i + 1 : Nat) : Int) - 1).toNat * 1) (limbs a)) = ((a.getD i 0 : Nat) : Int) := by rw [ei, Nat.mul_one, getInt_limbs]
    generalize hxx : a.getD i 0 = x at *
    obtain ⟨n, hn⟩ : ∃ n, n = r * BB + x := ⟨_, rfl⟩
    have g0 : (r : Int) * 1000000000 + (x : Int) = (n : Int) := by rw [hn]; simp
    have hnd : n < d * BB := by
      rw [hn]
      have := Nat.mul_le_mul_right BB (show r + 1 ≤ d from hr)
      rw [Nat.add_mul] at this
      omega
    have hq : n / d < BB := Nat.div_lt_of_lt_mul hnd
    have hm := Nat.mod_lt n hd
    have hmd := Nat.mod_add_div n d
    have g5 := tdiv_nat n d
    have g6 := tmod_nat n d
    generalize n / d = q at *
    generalize n % d = r' at *
    repeat' ((conv => whnf); first | refine ngo ?_ | refine VB.tt ?_ | refine VB.ff ?_ | refine VNew.keep ?_ | refine dgo ?_ | refine sgo ?_ | fail)
    conv => whnf
    rw [g1]
    repeat' ((conv => whnf); first | refine ngo ?_ | refine VB.tt ?_ | refine VB.ff ?_ | refine VNew.keep ?_ | refine dgo ?_ | refine sgo ?_ | fail)
    conv => whnf
    rw [g0]
    refine VDraw.x true 9 3 ⟨[(0, natL a), (1, .int .u64 d), (6, .osl 0 0 0 l.length 1), (7, .int .u64 r'), (8, .int .i64 i)], [.cells 0 41 (limbs (l.set i q))], []⟩ mixed (by kernel_rfl) (by kernel_rfl) (by kernel_rfl) (by kernel_rfl) ?_ ?_
    · repeat' ((conv => whnf); first | refine ngo ?_ | refine VB.tt ?_ | refine VB.ff ?_ | refine VNew.keep ?_ | refine dgo ?_ | refine sgo ?_ | fail)
      conv => whnf
      rw [g5]
      repeat' ((conv => whnf); first | refine ngo ?_ | refine VB.tt ?_ | refine VB.ff ?_ | refine VNew.keep ?_ | refine dgo ?_ | refine sgo ?_ | fail)
      conv => whnf
      refine vall.one (i := 9) (by kernel_rfl) rfl ?_
      repeat' ((conv => whnf); first | refine ngo ?_ | refine VB.tt ?_ | refine VB.ff ?_ | refine VNew.keep ?_ | refine dgo ?_ | refine sgo ?_ | fail)
      conv => whnf
      refine vall.one (i := 10) (by kernel_rfl) rfl ?_
      repeat' ((conv => whnf); first | refine ngo ?_ | refine VB.tt ?_ | refine VB.ff ?_ | refine VNew.keep ?_ | refine dgo ?_ | refine sgo ?_ | fail)
      conv => whnf
      refine vall.one (i := 11) (by kernel_rfl) rfl ?_
      repeat' ((conv => whnf); first | refine ngo ?_ | refine VB.tt ?_ | refine VB.ff ?_ | refine VNew.keep ?_ | refine dgo ?_ | refine sgo ?_ | fail)
      conv => whnf
      refine ⟨⟨rfl, rfl, ?_, ?_, ?_, trivial⟩, ?_, rfl⟩
      · simp [lk]
      · simp [lk, g6]
      · simp [lk]
      · show [AObj.cells 0 _ (splice _ _ _)] = _
        rw [ei, Nat.zero_add, Nat.mul_one, splice_limbs (by omega)]
    · repeat' ((conv => whnf); first | refine ngo ?_ | refine VB.tt ?_ | refine VB.ff ?_ | refine VNew.keep ?_ | refine dgo ?_ | refine sgo ?_ | fail)
      conv => whnf
      refine ⟨(i, l.set i q, r'), ⟨by omega, by simpa using hll, okL_set hok _ hq, hm, ?_, ?_⟩, by dsimp only; omega, ⟨⟨rfl, rfl, ?_, rfl, rfl, trivial⟩, rfl, rfl⟩⟩
      · dsimp only
        rw [List.take_set_of_le (Nat.le_refl _)]
        rw [val_take_succ (by omega)] at hz
        omega
      · dsimp only
        have hz2 : l.getD i 0 = 0 := by
          rw [val_take_succ (by omega)] at hz
          have h1 : BB ^ i * l.getD i 0 = 0 := by omega
          exact (Nat.mul_eq_zero.1 h1).resolve_left (Nat.pos_iff_ne_zero.1 (Nat.pow_pos (by decide)))
        rw [List.drop_set, if_neg (by omega), Nat.sub_self, List.drop_eq_getElem_cons (by omega), List.set_cons_zero, val]
        rw [List.drop_eq_getElem_cons (l := a) (by omega), val, ← hv]
        have hxe : a[i] = x := by rw [← hxx]; simp [List.getD_eq_getElem?_getD, show i < a.length by omega]
        rw [hxe, Nat.add_mul, Nat.mul_add, Nat.mul_comm q d, Nat.mul_assoc BB]
        rw [Nat.mul_comm BB r]
        omega
      · simp [lk]
  · have : i = 0 := by omega
    subst this
    rw [List.drop_zero, List.drop_zero] at hv
    have hq : val l = val a / d := by rw [← hv, Nat.mul_comm, Nat.mul_add_div hd, Nat.div_eq_of_lt hr, Nat.add_zero]
    have hm : r = val a % d := by rw [← hv, Nat.mul_comm, Nat.mul_add_mod, Nat.mod_eq_of_lt hr]
    repeat' ((conv => whnf); first | refine ngo ?_ | refine VB.tt ?_ | refine VB.ff ?_ | refine VNew.keep ?_ | refine dgo ?_ | refine sgo ?_ | fail)
    conv => whnf
    refine (trim_own0 hok (by omega)).mono fun v H' hq => ?_
    obtain ⟨rfl, rfl⟩ := hq
    repeat' ((conv => whnf); first | refine ngo ?_ | refine VB.tt ?_ | refine VB.ff ?_ | refine VNew.keep ?_ | refine dgo ?_ | refine sgo ?_ | fail)
    conv => whnf
    exact ⟨l, hok, hq, rfl, by rw [hq, hm]⟩
end Go.Proofs.Ytoijfbdjlagooaa


/- Contracts: a multiple taken off. -/
namespace Go.Proofs.Ytoijfbdjlagooaa
open Go Go.RowKit
set_option linter.unusedVariables false
set_option linter.unusedSimpArgs false
set_option maxRecDepth 100000

def seg (l : List Nat) (j i : Nat) : Nat := val ((l.drop j).take i)
theorem seg_zero (l : List Nat) (j : Nat) : seg l j 0 = 0 := by simp [seg, val]
theorem seg_succ {l : List Nat} {j i : Nat} (h : j + i < l.length) : seg l j (i + 1) = seg l j i + BB ^ i * l.getD (j + i) 0 := by
  unfold seg
  rw [val_take_succ (by simp; omega)]
  simp [List.getD_eq_getElem?_getD, List.getElem?_drop]
theorem seg_set {l : List Nat} {j i k c : Nat} (h : i ≤ k) : seg (l.set (j + k) c) j i = seg l j i := by
  unfold seg
  rw [List.drop_set, if_neg (by omega), List.take_set_of_le (by omega)]
theorem getD_set_eq {l : List Nat} {k c : Nat} (h : k < l.length) : (l.set k c).getD k 0 = c := by
  simp [List.getD_eq_getElem?_getD, h]
theorem getD_set_ne' {l : List Nat} {k j c : Nat} (h : k ≠ j) : (l.set k c).getD j 0 = l.getD j 0 := by
  simp [List.getD_eq_getElem?_getD, List.getElem?_set_ne h]

theorem borrowed_own {R : Heap} {ver e : Nat} {l v : List Nat} {j m by_ : Nat} (hok : okL l) (hv : okL v) (hby : by_ < BB) (hjm : j + m ≤ l.length) (hl : l.length < 100000000) (hvm : v.length ≤ m) (hlt : val v * by_ < BB ^ m) :
    VCall EE 113 [.osl 0 ver j m 1, natL v, .int .u64 by_] (.cells ver e (limbs l) :: R) fun r H' => ∃ l' b, l'.length = l.length ∧ okL l' ∧ (∀ k, k < j ∨ j + m ≤ k → l'.getD k 0 = l.getD k 0) ∧
      H' = .cells ver e (limbs l') :: R ∧ r = .bool b ∧ seg l' j m + val v * by_ = seg l j m + (if b then BB ^ m else 0) := by
  refine VCall.of_body true Try.func113 rfl (by decide) rfl ?_
  repeat' ((conv => whnf); first | refine ngo ?_ | refine VB.tt ?_ | refine VB.ff ?_ | refine VNew.keep ?_ | refine dgo ?_ | refine sgo ?_ | fail)
  conv => whnf
  refine VLoop.ix true (fun x : Nat × List Nat × Nat × Nat => ⟨[(0, .osl 0 ver j m 1), (1, natL v), (2, .int .u64 by_), (7, .int .u64 x.2.2.1), (8, .int .u64 x.2.2.2), (12, .osl 0 ver j m 1), (13, .int .i64 m), (14, .int .i64 x.1)], .cells ver e (limbs x.2.1) :: R, []⟩)
    (fun x => x.1 ≤ m ∧ x.2.1.length = l.length ∧ okL x.2.1 ∧ (∀ k, k < j ∨ j + x.1 ≤ k → x.2.1.getD k 0 = l.getD k 0) ∧ x.2.2.1 < BB ∧ x.2.2.2 ≤ 1 ∧
      BB ^ x.1 * x.2.2.1 ≤ val (v.take x.1) * by_ ∧ seg x.2.1 j x.1 + val (v.take x.1) * by_ = seg l j x.1 + BB ^ x.1 * x.2.2.2 + BB ^ x.1 * x.2.2.1) (fun x => m - x.1) (0, l, 0, 0)
    ⟨Nat.zero_le _, rfl, hok, fun _ _ => rfl, Nat.zero_lt_succ _, Nat.zero_le _, by simp, by simp [seg_zero, val]⟩ ⟨⟨rfl, rfl, rfl, rfl, rfl, rfl, rfl, rfl, trivial⟩, rfl, rfl⟩ ?_
  rintro ⟨i, l1, c, b⟩ ⟨hi, hll, hok1, hsame, hc, hb, hcv, heq⟩
  dsimp only at hi hll hok1 hsame hc hb hcv heq ⊢
  repeat' ((conv => whnf); first | refine ngo ?_ | refine VB.tt ?_ | refine VB.ff ?_ | refine VNew.keep ?_ | refine dgo ?_ | refine sgo ?_ | fail)
  conv => whnf
  refine VB.dec (fun h => ?_) (fun h => ?_)
  · have hBB : BB = 1000000000 := rfl
    have hx := getD_lt hv i
    have hu0 := getD_lt hok1 (j + i)
    have g3 : getInt (List.drop (j + (i : Int).toNat * 1) (limbs l1)) = ((l1.getD (j + i) 0 : Nat) : Int) := by rw [Int.toNat_natCast, Nat.mul_one, getInt_limbs]
    have g4 : getInt (List.drop ((i : Int).toNat * 1) (limbs v)) = ((v.getD i 0 : Nat) : Int) := by rw [Int.toNat_natCast, Nat.mul_one, getInt_limbs]
    have htk : val (v.take (i + 1)) = val (v.take i) + BB ^ i * v.getD i 0 := by
      rcases Nat.lt_or_ge i v.length with hlt | hge
      · exact val_take_succ hlt
      · rw [List.take_of_length_le hge, List.take_of_length_le (by omega)]
        simp [List.getD_eq_getElem?_getD, hge]
    obtain ⟨p, hp⟩ : ∃ p, p = c + v.getD i 0 * by_ := ⟨_, rfl⟩
    have hpl : p < BB * BB := by
      have := mul_lt_BB hx hby hc (d := 0) (by decide)
      omega
    have hBB2 : BB * BB = 1000000000000000000 := rfl
    generalize hxx : v.getD i 0 = x at *
    generalize hu : l1.getD (j + i) 0 = u at *
    repeat' ((conv => whnf); first | refine ngo ?_ | refine VB.tt ?_ | refine VB.ff ?_ | refine VNew.keep ?_ | refine dgo ?_ | refine sgo ?_ | fail)
    conv => whnf
    refine VB.dec (fun hiv => ?_) (fun hiv => ?_)
    · have g0 : (c : Int) + (x : Int) * (by_ : Int) = (p : Int) := by rw [hp]; simp
      repeat' ((conv => whnf); first | refine ngo ?_ | refine VB.tt ?_ | refine VB.ff ?_ | refine VNew.keep ?_ | refine dgo ?_ | refine sgo ?_ | fail)
      conv => whnf
      rw [g4]
      repeat' ((conv => whnf); first | refine ngo ?_ | refine VB.tt ?_ | refine VB.ff ?_ | refine VNew.keep ?_ | refine dgo ?_ | refine sgo ?_ | fail)
      conv => whnf
      rw [g0]
      have hmd := Nat.mod_add_div p BB
      have hpm := Nat.mod_lt p (show 0 < BB by decide)
      have hpq : p / BB < BB := Nat.div_lt_of_lt_mul hpl
      have g5 := tdiv_BB p
      have g6 := tmod_BB p
      generalize p / BB = pq at *
      generalize p % BB = pm at *
      obtain ⟨n, hn⟩ : ∃ n, n = u + BB - pm - b := ⟨_, rfl⟩
      have g7 : (u : Int) + 1000000000 - (pm : Int) - (b : Int) = (n : Int) := by omega
      have hnd := Nat.mod_add_div n BB
      have hnm := Nat.mod_lt n (show 0 < BB by decide)
      have hnq : n / BB ≤ 1 := Nat.le_of_lt_succ (Nat.div_lt_of_lt_mul (by omega))
      have g8 := tdiv_BB n
      have g9 := tmod_BB n
      generalize n / BB = nq at *
      generalize n % BB = nr at *
      repeat' ((conv => whnf); first | refine ngo ?_ | refine VB.tt ?_ | refine VB.ff ?_ | refine VNew.keep ?_ | refine dgo ?_ | refine sgo ?_ | fail)
      conv => whnf
      rw [g5]
      repeat' ((conv => whnf); first | refine ngo ?_ | refine VB.tt ?_ | refine VB.ff ?_ | refine VNew.keep ?_ | refine dgo ?_ | refine sgo ?_ | fail)
      conv => whnf
      rw [g3]
      repeat' ((conv => whnf); first | refine ngo ?_ | refine VB.tt ?_ | refine VB.ff ?_ | refine VNew.keep ?_ | refine dgo ?_ | refine sgo ?_ | fail)
      conv => whnf
      rw [g6, g7]
      repeat' ((conv => whnf); first | refine ngo ?_ | refine VB.tt ?_ | refine VB.ff ?_ | refine VNew.keep ?_ | refine dgo ?_ | refine sgo ?_ | fail)
      conv => whnf
      rw [g8]
      repeat' ((conv => whnf); first | refine ngo ?_ | refine VB.tt ?_ | refine VB.ff ?_ | refine VNew.keep ?_ | refine dgo ?_ | refine sgo ?_ | fail)
      conv => whnf
      rw [g9]
      repeat' ((conv => whnf); first | refine ngo ?_ | refine VB.tt ?_ | refine VB.ff ?_ | refine VNew.keep ?_ | refine dgo ?_ | refine sgo ?_ | fail)
      conv => whnf
      refine to_forceH ?_
      repeat' ((conv => whnf); first | refine ngo ?_ | refine VB.tt ?_ | refine VB.ff ?_ | refine VNew.keep ?_ | refine dgo ?_ | refine sgo ?_ | fail)
      conv => whnf
      refine ⟨(i + 1, l1.set (j + i) nr, pq, 1 - nq), ⟨by dsimp only; omega, by simpa using hll, okL_set hok1 _ hnm, ?_, hpq, by dsimp only; omega, ?_, ?_⟩, by dsimp only; omega, ⟨⟨rfl, rfl, rfl, ?_, ?_, rfl, rfl, ?_, trivial⟩, ?_, rfl⟩⟩
      · intro k hk
        dsimp only at hk ⊢
        rw [getD_set_ne' (by omega)]
        exact hsame k (by omega)
      · dsimp only
        rw [htk, Nat.add_mul, Nat.pow_succ, Nat.mul_assoc]
        have : BB ^ i * (BB * pq) ≤ BB ^ i * p := Nat.mul_le_mul_left _ (by omega)
        rw [hp, Nat.mul_add] at this
        rw [Nat.mul_assoc]
        omega
      · dsimp only
        rw [seg_succ (by simp; omega), seg_set (Nat.le_refl _), getD_set_eq (by omega), seg_succ (by omega), htk, Nat.add_mul, ← hsame (j + i) (by omega), hu]
        have e1 : BB ^ (i + 1) * (1 - nq) + BB ^ (i + 1) * pq = BB ^ i * (BB * (1 - nq) + BB * pq) := by rw [Nat.pow_succ, Nat.mul_assoc, Nat.mul_assoc, Nat.mul_add]
        have e2 : BB ^ i * nr + BB ^ i * x * by_ + BB ^ i * b + BB ^ i * c = BB ^ i * u + BB ^ i * (BB * (1 - nq) + BB * pq) := by
          rw [Nat.mul_assoc, ← Nat.mul_add, ← Nat.mul_add, ← Nat.mul_add, ← Nat.mul_add]
          congr 1
          have : BB * (1 - nq) = BB - BB * nq := by rw [Nat.mul_sub, Nat.mul_one]
          have h9 : BB * nq ≤ BB := by have := Nat.mul_le_mul_left BB hnq; omega
          omega
        omega
      · simp [lk]
      · simp [lk]; omega
      · simp [lk]
      · show AObj.cells _ _ (splice _ _ _) :: R = _
        rw [Int.toNat_natCast, Nat.mul_one, splice_limbs (by omega)]
    · have hx0 : x = 0 := by rw [← hxx]; simp [List.getD_eq_getElem?_getD, show v.length ≤ i by omega]
      have g0 : (c : Int) = (p : Int) := by rw [hp, hx0]; simp
      repeat' ((conv => whnf); first | refine ngo ?_ | refine VB.tt ?_ | refine VB.ff ?_ | refine VNew.keep ?_ | refine dgo ?_ | refine sgo ?_ | fail)
      conv => whnf
      rw [g0]
      have hmd := Nat.mod_add_div p BB
      have hpm := Nat.mod_lt p (show 0 < BB by decide)
      have hpq : p / BB < BB := Nat.div_lt_of_lt_mul hpl
      have g5 := tdiv_BB p
      have g6 := tmod_BB p
      generalize p / BB = pq at *
      generalize p % BB = pm at *
      obtain ⟨n, hn⟩ : ∃ n, n = u + BB - pm - b := ⟨_, rfl⟩
      have g7 : (u : Int) + 1000000000 - (pm : Int) - (b : Int) = (n : Int) := by omega
      have hnd := Nat.mod_add_div n BB
      have hnm := Nat.mod_lt n (show 0 < BB by decide)
      have hnq : n / BB ≤ 1 := Nat.le_of_lt_succ (Nat.div_lt_of_lt_mul (by omega))
      have g8 := tdiv_BB n
      have g9 := tmod_BB n
      generalize n / BB = nq at *
      generalize n % BB = nr at *
      repeat' ((conv => whnf); first | refine ngo ?_ | refine VB.tt ?_ | refine VB.ff ?_ | refine VNew.keep ?_ | refine dgo ?_ | refine sgo ?_ | fail)
      conv => whnf
      rw [g5]
      repeat' ((conv => whnf); first | refine ngo ?_ | refine VB.tt ?_ | refine VB.ff ?_ | refine VNew.keep ?_ | refine dgo ?_ | refine sgo ?_ | fail)
      conv => whnf
      rw [g3]
      repeat' ((conv => whnf); first | refine ngo ?_ | refine VB.tt ?_ | refine VB.ff ?_ | refine VNew.keep ?_ | refine dgo ?_ | refine sgo ?_ | fail)
      conv => whnf
      rw [g6, g7]
      repeat' ((conv => whnf); first | refine ngo ?_ | refine VB.tt ?_ | refine VB.ff ?_ | refine VNew.keep ?_ | refine dgo ?_ | refine sgo ?_ | fail)
      conv => whnf
      rw [g8]
      repeat' ((conv => whnf); first | refine ngo ?_ | refine VB.tt ?_ | refine VB.ff ?_ | refine VNew.keep ?_ | refine dgo ?_ | refine sgo ?_ | fail)
      conv => whnf
      rw [g9]
      repeat' ((conv => whnf); first | refine ngo ?_ | refine VB.tt ?_ | refine VB.ff ?_ | refine VNew.keep ?_ | refine dgo ?_ | refine sgo ?_ | fail)
      conv => whnf
      refine to_forceH ?_
      repeat' ((conv => whnf); first | refine ngo ?_ | refine VB.tt ?_ | refine VB.ff ?_ | refine VNew.keep ?_ | refine dgo ?_ | refine sgo ?_ | fail)
      conv => whnf
      refine ⟨(i + 1, l1.set (j + i) nr, pq, 1 - nq), ⟨by dsimp only; omega, by simpa using hll, okL_set hok1 _ hnm, ?_, hpq, by dsimp only; omega, ?_, ?_⟩, by dsimp only; omega, ⟨⟨rfl, rfl, rfl, ?_, ?_, rfl, rfl, ?_, trivial⟩, ?_, rfl⟩⟩
      · intro k hk
        dsimp only at hk ⊢
        rw [getD_set_ne' (by omega)]
        exact hsame k (by omega)
      · dsimp only
        rw [htk, Nat.add_mul, Nat.pow_succ, Nat.mul_assoc]
        have : BB ^ i * (BB * pq) ≤ BB ^ i * p := Nat.mul_le_mul_left _ (by omega)
        rw [hp, Nat.mul_add] at this
        rw [Nat.mul_assoc]
        omega
      · dsimp only
        rw [seg_succ (by simp; omega), seg_set (Nat.le_refl _), getD_set_eq (by omega), seg_succ (by omega), htk, Nat.add_mul, ← hsame (j + i) (by omega), hu]
        have e1 : BB ^ (i + 1) * (1 - nq) + BB ^ (i + 1) * pq = BB ^ i * (BB * (1 - nq) + BB * pq) := by rw [Nat.pow_succ, Nat.mul_assoc, Nat.mul_assoc, Nat.mul_add]
        have e2 : BB ^ i * nr + BB ^ i * x * by_ + BB ^ i * b + BB ^ i * c = BB ^ i * u + BB ^ i * (BB * (1 - nq) + BB * pq) := by
          rw [Nat.mul_assoc, ← Nat.mul_add, ← Nat.mul_add, ← Nat.mul_add, ← Nat.mul_add]
          congr 1
          have : BB * (1 - nq) = BB - BB * nq := by rw [Nat.mul_sub, Nat.mul_one]
          have h9 : BB * nq ≤ BB := by have := Nat.mul_le_mul_left BB hnq; omega
          omega
        omega
      · simp [lk]
      · simp [lk]; omega
      · simp [lk]
      · show AObj.cells _ _ (splice _ _ _) :: R = _
        rw [Int.toNat_natCast, Nat.mul_one, splice_limbs (by omega)]
  · have : i = m := by omega
    subst this
    have ht : v.take i = v := List.take_of_length_le hvm
    rw [ht] at hcv heq
    have hc0 : c = 0 := by
      have h1 := Nat.lt_of_le_of_lt hcv hlt
      rcases Nat.eq_zero_or_pos c with h0 | h0
      · exact h0
      · have := Nat.le_mul_of_pos_right (BB ^ i) h0
        omega
    subst hc0
    repeat' ((conv => whnf); first | refine ngo ?_ | refine VB.tt ?_ | refine VB.ff ?_ | refine VNew.keep ?_ | refine dgo ?_ | refine sgo ?_ | fail)
    conv => whnf
    refine to_forceH ⟨l1, decide ((b : Int) > 0), hll, hok1, hsame, rfl, rfl, ?_⟩
    rw [heq]
    rcases Nat.le_one_iff_eq_zero_or_eq_one.1 hb with rfl | rfl <;> simp
end Go.Proofs.Ytoijfbdjlagooaa


/- Long division: plain facts. -/
namespace Go.Proofs.Ytoijfbdjlagooaa
set_option linter.unusedVariables false
set_option linter.unusedSimpArgs false

theorem kn_first {B P v1 v2 v3 top u0 u3 U v : Nat} (hv : v = (v1 * B + v2) * P + v3) (hU : U = (top * B + u0) * P + u3) (h1 : 0 < v1) (hB : 0 < B) (hP : 0 < P) (hu0 : u0 < B) (hu3 : u3 < P) :
    U / v ≤ top / v1 := by
  have hv0 : 0 < v := by
    rw [hv]
    have := Nat.mul_pos (Nat.mul_pos h1 hB) hP
    rw [Nat.add_mul]
    omega
  rw [Nat.le_div_iff_mul_le h1]
  have hq := Nat.div_mul_le_self U v
  generalize U / v = q at *
  apply Nat.le_of_lt_succ
  have h2 : (q * v1) * (B * P) < (top + 1) * (B * P) := by
    have h3 : (u0 + 1) * P ≤ B * P := Nat.mul_le_mul_right _ hu0
    rw [hv, hU] at hq
    simp only [Nat.add_mul, Nat.mul_add, Nat.one_mul, Nat.mul_assoc] at *
    omega
  exact Nat.lt_of_mul_lt_mul_right h2

theorem kn_step {B P v1 v2 v3 top u0 u3 U v guess rest : Nat} (hv : v = (v1 * B + v2) * P + v3) (hU : U = (top * B + u0) * P + u3) (hP : 0 < P) (hu3 : u3 < P) (hg : guess * v1 + rest = top)
    (h : rest * B + u0 < guess * v2) : U < guess * v := by
  have h1 : (rest * B + u0 + 1) * P ≤ guess * v2 * P := Nat.mul_le_mul_right _ h
  rw [hv, hU, ← hg]
  simp only [Nat.add_mul, Nat.mul_add, Nat.one_mul, Nat.mul_assoc] at *
  omega

theorem kn_last {B P v1 v2 v3 top u0 u3 U v guess rest : Nat} (hv : v = (v1 * B + v2) * P + v3) (hU : U = (top * B + u0) * P + u3) (h1 : 0 < v1) (hB : 0 < B) (hP : 0 < P) (hv3 : v3 < P) (hg : guess * v1 + rest = top)
    (h : guess * v2 ≤ rest * B + u0) (hb : guess < B) : guess ≤ U / v + 1 := by
  have hv0 : 0 < v := by
    rw [hv]
    have := Nat.mul_pos (Nat.mul_pos h1 hB) hP
    rw [Nat.add_mul]
    omega
  rw [← Nat.sub_le_iff_le_add, Nat.le_div_iff_mul_le hv0]
  rcases Nat.eq_zero_or_pos guess with h0 | h0
  · subst h0; simp
  obtain ⟨g, rfl⟩ : ∃ g, guess = g + 1 := ⟨guess - 1, by omega⟩
  rw [Nat.add_sub_cancel]
  have h2 : (g + 1) * v2 * P ≤ (rest * B + u0) * P := Nat.mul_le_mul_right _ h
  have h3 : (g + 1) * v3 ≤ (g + 1) * P := Nat.mul_le_mul_left _ (Nat.le_of_lt hv3)
  have h4 : (g + 1) * P ≤ B * P := Nat.mul_le_mul_right _ (Nat.le_of_lt hb)
  have h5 : 1 * (B * P) ≤ v1 * (B * P) := Nat.mul_le_mul_right _ h1
  rw [hv, hU, ← hg]
  simp only [Nat.add_mul, Nat.mul_add, Nat.one_mul, Nat.mul_assoc] at *
  omega

theorem kn_top {B P v1 v2 v3 top u0 u3 U v : Nat} (hv : v = (v1 * B + v2) * P + v3) (hU : U = (top * B + u0) * P + u3) (hP : 0 < P) (hB : 0 < B) (hv2 : v2 < B) (hv3 : v3 < P) (h : U < v * B) : top < (v1 + 1) * B := by
  have h1 : (v2 + 1) * P ≤ B * P := Nat.mul_le_mul_right _ hv2
  have h2 : v ≤ (v1 + 1) * B * P := by
    rw [hv]
    simp only [Nat.add_mul, Nat.mul_add, Nat.one_mul, Nat.mul_assoc] at *
    omega
  have h3 : v * B ≤ (v1 + 1) * B * P * B := Nat.mul_le_mul_right _ h2
  have h4 : top * (B * P) < (v1 + 1) * B * (B * P) := by
    have e1 : (v1 + 1) * B * P * B = (v1 + 1) * B * (B * P) := by rw [Nat.mul_assoc, Nat.mul_comm P B]
    rw [← e1]
    rw [hU] at h
    simp only [Nat.add_mul, Nat.mul_add, Nat.one_mul, Nat.mul_assoc] at *
    omega
  exact Nat.lt_of_mul_lt_mul_right h4

/-- The rest of the guess is long: the guess is a limb. -/
theorem kn_brk {B v1 top guess rest : Nat} (hg : guess * v1 + rest = top) (ht : top < (v1 + 1) * B) (hr : B ≤ rest) (h1 : 0 < v1) : guess < B := by
  have h2 : guess * v1 < B * v1 := by
    rw [Nat.add_mul, Nat.one_mul, Nat.mul_comm v1 B] at ht
    omega
  exact Nat.lt_of_mul_lt_mul_right h2

theorem two_split {l : List Nat} {n : Nat} (h : l.length = n) (hn : 2 ≤ n) : val l = (l.getD (n - 1) 0 * BB + l.getD (n - 2) 0) * BB ^ (n - 2) + val (l.take (n - 2)) := by
  obtain ⟨k, rfl⟩ : ∃ k, n = k + 2 := ⟨n - 2, by omega⟩
  have h1 := val_take_succ (l := l) (i := k + 1) (by omega)
  have h2 := val_take_succ (l := l) (i := k) (by omega)
  rw [List.take_of_length_le (by omega), h2] at h1
  rw [h1, show k + 2 - 1 = k + 1 by omega, show k + 2 - 2 = k by omega]
  generalize l.getD (k + 1) 0 = x
  generalize l.getD k 0 = y
  rw [Nat.pow_succ, Nat.add_mul, Nat.mul_comm (x * BB), Nat.mul_comm x BB, Nat.mul_comm y, Nat.mul_assoc]
  omega

theorem three_split {l : List Nat} {n : Nat} (h : l.length = n + 1) (hn : 2 ≤ n) :
    val l = ((l.getD n 0 * BB + l.getD (n - 1) 0) * BB + l.getD (n - 2) 0) * BB ^ (n - 2) + val (l.take (n - 2)) := by
  have h1 := val_take_succ (l := l) (i := n) (by omega)
  rw [List.take_of_length_le (by omega)] at h1
  have h2 := two_split (l := l.take n) (n := n) (by rw [List.length_take]; omega) hn
  have e1 : (l.take n).getD (n - 1) 0 = l.getD (n - 1) 0 := by simp [List.getD_eq_getElem?_getD, List.getElem?_take, show n - 1 < n by omega]
  have e2 : (l.take n).getD (n - 2) 0 = l.getD (n - 2) 0 := by simp [List.getD_eq_getElem?_getD, List.getElem?_take, show n - 2 < n by omega]
  rw [e1, e2, List.take_take, Nat.min_eq_left (by omega)] at h2
  rw [h1, h2]
  generalize l.getD n 0 = x
  generalize l.getD (n - 1) 0 = y
  generalize l.getD (n - 2) 0 = z
  obtain ⟨k, rfl⟩ : ∃ k, n = k + 2 := ⟨n - 2, by omega⟩
  rw [show k + 2 - 2 = k by omega]
  have e3 : BB ^ (k + 2) * x = x * BB * BB * BB ^ k := by
    rw [Nat.pow_succ, Nat.pow_succ, Nat.mul_comm _ x, Nat.mul_comm (BB ^ k), Nat.mul_assoc, Nat.mul_assoc, Nat.mul_assoc, Nat.mul_comm (BB ^ k) BB]
  rw [e3]
  simp only [Nat.add_mul]
  omega

theorem dg_mul_le (a b : Nat) : (dg (a * b)).length ≤ (dg a).length + (dg b).length := by
  refine length_dg_lt ?_
  rw [Nat.pow_add]
  exact Nat.mul_lt_mul'' (lt_of_length_dg a) (lt_of_length_dg b)

theorem val_take_any (l : List Nat) (i : Nat) : val (l.take (i + 1)) = val (l.take i) + BB ^ i * l.getD i 0 := by
  rcases Nat.lt_or_ge i l.length with hlt | hge
  · exact val_take_succ hlt
  · rw [List.take_of_length_le hge, List.take_of_length_le (by omega)]
    simp [List.getD_eq_getElem?_getD, hge]

theorem list_take_eq {u u' : List Nat} {i : Nat} (hl : u'.length = u.length) (h : ∀ k, k < i → u'.getD k 0 = u.getD k 0) : u'.take i = u.take i := by
  apply List.ext_getElem (by simp [hl])
  intro k h1 h2
  have h3 := h k (by simp at h1; omega)
  simp at h1 h2
  simpa [List.getD_eq_getElem?_getD, h1, h2, show k < u.length by omega, show k < u'.length by omega] using h3
theorem list_drop_eq {u u' : List Nat} {i : Nat} (hl : u'.length = u.length) (h : ∀ k, i ≤ k → u'.getD k 0 = u.getD k 0) : u'.drop i = u.drop i := by
  apply List.ext_getElem (by simp [hl])
  intro k h1 h2
  have h3 := h (i + k) (by omega)
  simp at h1 h2
  simpa [List.getD_eq_getElem?_getD, show i + k < u.length by omega, show i + k < u'.length by omega] using h3

theorem val_seg {u : List Nat} {i m : Nat} (h : i + m ≤ u.length) : val (u.drop i) = seg u i m + BB ^ m * val (u.drop (i + m)) := by
  have e := congrArg val (List.take_append_drop m (u.drop i))
  rw [val_append, List.length_take, List.length_drop, Nat.min_eq_left (by omega), List.drop_drop] at e
  exact e.symm
theorem val_at {u : List Nat} {i : Nat} (h : i ≤ u.length) : val u = val (u.take i) + BB ^ i * val (u.drop i) := by
  have e := congrArg val (List.take_append_drop i u)
  rw [val_append, List.length_take, Nat.min_eq_left h] at e
  exact e.symm

theorem seg_swap {u u' : List Nat} {i m : Nat} (hl : u'.length = u.length) (him : i + m ≤ u.length) (hs : ∀ k, k < i ∨ i + m ≤ k → u'.getD k 0 = u.getD k 0) :
    val u' + BB ^ i * seg u i m = val u + BB ^ i * seg u' i m ∧ val (u'.drop i) + seg u i m = val (u.drop i) + seg u' i m := by
  have h1 := list_take_eq hl (i := i) fun k hk => hs k (.inl hk)
  have h2 := list_drop_eq hl (i := i + m) fun k hk => hs k (.inr hk)
  have h3 : val (u'.drop i) + seg u i m = val (u.drop i) + seg u' i m := by
    rw [val_seg him, val_seg (show i + m ≤ u'.length by omega), h2]; omega
  refine ⟨?_, h3⟩
  rw [val_at (show i ≤ u.length by omega), val_at (show i ≤ u'.length by omega), h1, Nat.add_assoc, ← Nat.mul_add, h3, Nat.mul_add]
  omega

theorem split_unique {P s c R B : Nat} (h : s + P * c = R + P * B) (hs : s < P) (hR : R < P) : s = R ∧ c = B := by
  have e1 := congrArg (· / P) h
  have hP : 0 < P := by omega
  simp only [Nat.add_mul_div_left _ _ hP, Nat.div_eq_of_lt hs, Nat.div_eq_of_lt hR, Nat.zero_add] at e1
  subst e1
  exact ⟨by omega, rfl⟩

/-- A round of the division: the digit is right. -/
theorem kn_done {u u' q : List Nat} {i n U V A g : Nat} (hl : u'.length = u.length) (him : i + (n + 1) ≤ u.length) (hs : ∀ k, k < i ∨ i + (n + 1) ≤ k → u'.getD k 0 = u.getD k 0) (hV : 0 < V)
    (hU : seg u i (n + 1) = U) (hud : val (u.drop i) = U) (hU' : seg u' i (n + 1) = U % V) (hg : g = U / V) (hqi : q.getD i 0 = 0) (hi : i < q.length) (hA : val u + V * val q = A) :
    val (u'.drop i) < V ∧ val u' + V * val (q.set i g) = A := by
  obtain ⟨h1, h2⟩ := seg_swap hl him hs
  rw [hU, hU'] at h1 h2
  have h3 := Nat.mod_lt U hV
  refine ⟨by omega, ?_⟩
  have h4 := val_set (l := q) (j := i) hi g
  rw [hqi, Nat.mul_zero, Nat.add_zero] at h4
  rw [h4, hg, Nat.mul_add]
  have h5 : BB ^ i * U = BB ^ i * (U % V) + V * (BB ^ i * (U / V)) := by
    conv => lhs; rw [← Nat.mod_add_div U V]
    rw [Nat.mul_add, Nat.mul_left_comm]
  omega

end Go.Proofs.Ytoijfbdjlagooaa


/- Contracts: long division. -/
namespace Go.Proofs.Ytoijfbdjlagooaa
open Go Go.RowKit
set_option linter.unusedVariables false
set_option linter.unusedSimpArgs false
set_option maxRecDepth 100000

structure DivC (f n nA lq V v1 v2 v3 A : Nat) : Prop where
  hf1 : 1 ≤ f
  hf2 : f < BB
  hn : 2 ≤ n
  hnn : n = (dg V).length
  hnA : n ≤ nA
  hnA2 : nA < 20000000
  hlq : lq + n = nA + 2
  hv1 : v1 < BB
  hv10 : v1 ≠ 0
  hv2 : v2 < BB
  hsp : V = (v1 * BB + v2) * BB ^ (n - 2) + v3
  hv3 : v3 < BB ^ (n - 2)
  hV0 : 0 < V
  hVpow : V < BB ^ n

def dFr (f n nA lq V v1 v2 : Nat) (i : Int) : Fr := [(4, .osl 2 0 0 lq 1), (8, .int .u64 f), (9, .osl 0 1 0 (nA + 2) 1), (10, .dsl (limbs (dg V)) n), (11, .int .i64 n), (12, .int .u64 v1), (13, .int .u64 v2), (14, .int .i64 i)]
def dHp (u q : List Nat) : Heap := [.cells 1 41 (limbs u), .cells 0 41 [AV.int .u32 0, AV.int .u32 0], .cells 0 41 (limbs q)]

theorem guess_loop {f n nA lq V v1 v2 v3 A i gs rs top U x2 u3 : Nat} {u q : List Nat} (hc : DivC f n nA lq V v1 v2 v3 A) (hul : u.length = nA + 2) (hu : okL u) (hi : i + n < nA + 2)
    (hU : U = (top * BB + x2) * BB ^ (n - 2) + u3) (hu3 : u3 < BB ^ (n - 2)) (hx2 : x2 < BB) (hxx : u.getD (i + n - 2) 0 = x2) (htb : top < (v1 + 1) * BB) (htb2 : top < BB * BB)
    (hr0 : rs < v1) (hg0 : gs * v1 + rs = top) (hq0 : U / V ≤ gs) (hUV : U < V * BB) :
    VLoop EE Try.f102.ntmps none (nthLoop Try.f102 1) (fun e s => e = .exit 2 ∧ ∃ g : Nat, (g < BB ∧ U / V ≤ g ∧ g ≤ U / V + 1) ∧ Meets ⟨(16, .int .u64 g) :: dFr f n nA lq V v1 v2 i, dHp u q, []⟩ s)
      ⟨(16, .int .u64 gs) :: (17, .int .u64 rs) :: dFr f n nA lq V v1 v2 i, dHp u q, []⟩ := by
  have hP : 0 < BB ^ (n - 2) := Nat.pow_pos (by decide)
  have hv1 := hc.hv1
  have hv10 := hc.hv10
  have hv2 := hc.hv2
  have hn := hc.hn
  have hnA := hc.hnA
  have hnA2 := hc.hnA2
  have hlq := hc.hlq
  have hBB : BB = 1000000000 := rfl
  have hBB2 : BB * BB = 1000000000000000000 := rfl
  have ex2 : ((i : Int) + (n : Int) - 2).toNat = i + n - 2 := by omega
  have gx2 : getInt (List.drop (0 + ((i : Int) + (n : Int) - 2).toNat * 1) (limbs u)) = (x2 : Int) := by rw [ex2, Nat.zero_add, Nat.mul_one, getInt_limbs, hxx]
  refine VLoop.ix true (fun y : Nat × Nat => ⟨(16, .int .u64 y.1) :: (17, .int .u64 y.2) :: dFr f n nA lq V v1 v2 i, dHp u q, []⟩) (fun y => y.2 < BB ∧ y.1 * v1 + y.2 = top ∧ U / V ≤ y.1) (fun y => y.1) (gs, rs) ⟨by dsimp only; omega, hg0, hq0⟩
    ⟨⟨rfl, rfl, rfl, rfl, rfl, rfl, rfl, rfl, rfl, rfl, trivial⟩, rfl, rfl⟩ ?_
  rintro ⟨g, r⟩ ⟨hr, hg, hq⟩
  dsimp only at hr hg hq ⊢
  have hgt : g ≤ top := by have := Nat.le_mul_of_pos_right g (show 0 < v1 by omega); omega
  repeat' ((conv => whnf); first | refine ngo ?_ | refine VB.tt ?_ | refine VB.ff ?_ | refine VNew.keep ?_ | refine dgo ?_ | refine sgo ?_ | fail)
  conv => whnf
  by_cases hgb : (g : Int) ≥ 1000000000
  · rw [decide_eq_true hgb]
    have hstep : U / V ≤ g - 1 := by
      have h1 : U < (g - 1 + 1) * V := by
        have h2 : V * BB ≤ V * g := Nat.mul_le_mul_left _ (by omega)
        rw [show g - 1 + 1 = g by omega, Nat.mul_comm]
        omega
      exact Nat.le_of_lt_succ (Nat.div_lt_of_lt_mul (by rw [Nat.mul_comm]; exact h1))
    repeat' ((conv => whnf); first | refine ngo ?_ | refine VB.tt ?_ | refine VB.ff ?_ | refine VNew.keep ?_ | refine dgo ?_ | refine sgo ?_ | fail)
    conv => whnf
    refine VB.dec (fun hrb => ?_) (fun hrb => ?_)
    · have hg0 : g - 1 + 1 = g := by omega
      have hg' : (g - 1) * v1 + (r + v1) = top := by
        rw [← hg, ← hg0, Nat.add_mul, Nat.one_mul, Nat.add_sub_cancel]
        omega
      have h3 := kn_brk hg' htb (by omega) (by omega)
      have h4 := Nat.mul_le_mul (Nat.le_of_lt h3) (Nat.le_sub_one_of_lt hv2)
      have h5 : BB * BB ≤ (r + v1) * BB := Nat.mul_le_mul_right _ (by omega)
      have e4 : BB * (BB - 1) = 999999999000000000 := by decide
      have h6 := kn_last hc.hsp hU (by omega) (by decide) hP hc.hv3 hg' (by omega) h3
      repeat' ((conv => whnf); first | refine ngo ?_ | refine VB.tt ?_ | refine VB.ff ?_ | refine VNew.keep ?_ | refine dgo ?_ | refine sgo ?_ | fail)
      conv => whnf
      refine ⟨g - 1, ⟨h3, hstep, h6⟩, ⟨⟨by simp [lk]; omega, rfl, rfl, rfl, rfl, rfl, rfl, rfl, rfl, trivial⟩, rfl, rfl⟩⟩
    · repeat' ((conv => whnf); first | refine ngo ?_ | refine VB.tt ?_ | refine VB.ff ?_ | refine VNew.keep ?_ | refine dgo ?_ | refine sgo ?_ | fail)
      conv => whnf
      refine ⟨(g - 1, r + v1), ⟨by dsimp only; omega, ?_, hstep⟩, by dsimp only; omega, ⟨⟨by simp [lk]; omega, by simp [lk], rfl, rfl, rfl, rfl, rfl, rfl, rfl, rfl, trivial⟩, rfl, rfl⟩⟩
      dsimp only
      have hg0 : g - 1 + 1 = g := by omega
      rw [← hg, ← hg0, Nat.add_mul, Nat.one_mul, Nat.add_sub_cancel]
      omega
  · rw [decide_eq_false hgb]
    have hp1 := Nat.mul_le_mul (show g ≤ BB - 1 by omega) (Nat.le_sub_one_of_lt hv2)
    have e1 : (BB - 1) * (BB - 1) = 999999998000000001 := by decide
    repeat' ((conv => whnf); first | refine ngo ?_ | refine VB.tt ?_ | refine VB.ff ?_ | refine VNew.keep ?_ | refine dgo ?_ | refine sgo ?_ | fail)
    conv => whnf
    rw [gx2]
    repeat' ((conv => whnf); first | refine ngo ?_ | refine VB.tt ?_ | refine VB.ff ?_ | refine VNew.keep ?_ | refine dgo ?_ | refine sgo ?_ | fail)
    conv => whnf
    refine VB.dec (fun hgu => ?_) (fun hgu => ?_)
    · have hgu' : r * BB + x2 < g * v2 := by rw [hBB]; omega
      have hg1 : 0 < g := Nat.pos_of_ne_zero (by rintro rfl; simp at hgu')
      have h1 := kn_step hc.hsp hU hP hu3 hg hgu'
      have hstep : U / V ≤ g - 1 := by
        have h2 : U / V < g := Nat.div_lt_of_lt_mul (by rw [Nat.mul_comm]; exact h1)
        omega
      repeat' ((conv => whnf); first | refine ngo ?_ | refine VB.tt ?_ | refine VB.ff ?_ | refine VNew.keep ?_ | refine dgo ?_ | refine sgo ?_ | fail)
      conv => whnf
      refine VB.dec (fun hrb => ?_) (fun hrb => ?_)
      · have hg0 : g - 1 + 1 = g := by omega
        have hg' : (g - 1) * v1 + (r + v1) = top := by
          rw [← hg, ← hg0, Nat.add_mul, Nat.one_mul, Nat.add_sub_cancel]
          omega
        have h3 := kn_brk hg' htb (by omega) (by omega)
        have h4 := Nat.mul_le_mul (Nat.le_of_lt h3) (Nat.le_sub_one_of_lt hv2)
        have h5 : BB * BB ≤ (r + v1) * BB := Nat.mul_le_mul_right _ (by omega)
        have e4 : BB * (BB - 1) = 999999999000000000 := by decide
        have h6 := kn_last hc.hsp hU (by omega) (by decide) hP hc.hv3 hg' (by omega) h3
        repeat' ((conv => whnf); first | refine ngo ?_ | refine VB.tt ?_ | refine VB.ff ?_ | refine VNew.keep ?_ | refine dgo ?_ | refine sgo ?_ | fail)
        conv => whnf
        refine ⟨g - 1, ⟨h3, hstep, h6⟩, ⟨⟨by simp [lk]; omega, rfl, rfl, rfl, rfl, rfl, rfl, rfl, rfl, trivial⟩, rfl, rfl⟩⟩
      · repeat' ((conv => whnf); first | refine ngo ?_ | refine VB.tt ?_ | refine VB.ff ?_ | refine VNew.keep ?_ | refine dgo ?_ | refine sgo ?_ | fail)
        conv => whnf
        refine ⟨(g - 1, r + v1), ⟨by dsimp only; omega, ?_, hstep⟩, by dsimp only; omega, ⟨⟨by simp [lk]; omega, by simp [lk], rfl, rfl, rfl, rfl, rfl, rfl, rfl, rfl, trivial⟩, rfl, rfl⟩⟩
        dsimp only
        have hg0 : g - 1 + 1 = g := by omega
        rw [← hg, ← hg0, Nat.add_mul, Nat.one_mul, Nat.add_sub_cancel]
        omega
    · have hgu' : g * v2 ≤ r * BB + x2 := by rw [hBB]; omega
      have h1 := kn_last hc.hsp hU (by omega) (by decide) hP hc.hv3 hg hgu' (by omega)
      repeat' ((conv => whnf); first | refine ngo ?_ | refine VB.tt ?_ | refine VB.ff ?_ | refine VNew.keep ?_ | refine dgo ?_ | refine sgo ?_ | fail)
      conv => whnf
      refine ⟨g, ⟨by omega, hq, h1⟩, ⟨⟨rfl, rfl, rfl, rfl, rfl, rfl, rfl, rfl, rfl, trivial⟩, rfl, rfl⟩⟩
end Go.Proofs.Ytoijfbdjlagooaa


/- Contracts: long division, the sum taken back. -/
namespace Go.Proofs.Ytoijfbdjlagooaa
open Go Go.RowKit
set_option linter.unusedVariables false
set_option linter.unusedSimpArgs false
set_option maxRecDepth 100000

theorem back_loop {f n nA lq V v1 v2 v3 A i g : Nat} {u1 q : List Nat} (hc : DivC f n nA lq V v1 v2 v3 A) (hul1 : u1.length = nA + 2) (hu1 : okL u1) (hi : i + n < nA + 2) :
    VLoop EE Try.f102.ntmps none (nthLoop Try.f102 2) (fun e s => e = .exit 4 ∧ ∃ y : List Nat × Nat, (y.1.length = nA + 2 ∧ okL y.1 ∧ y.2 ≤ 1 ∧ (∀ k, k < i ∨ i + n ≤ k → y.1.getD k 0 = u1.getD k 0) ∧ seg y.1 i n + BB ^ n * y.2 = seg u1 i n + V) ∧
      Meets ⟨(18, .int .u64 y.2) :: (16, .int .u64 g) :: dFr f n nA lq V v1 v2 i, dHp y.1 q, []⟩ s)
      ⟨(18, .int .u64 (0 : Nat)) :: (150, .int .i64 n) :: (151, .int .i64 (0 : Nat)) :: (16, .int .u64 g) :: dFr f n nA lq V v1 v2 i, dHp u1 q, []⟩ := by
  have hn := hc.hn
  have hnn := hc.hnn
  have hnA := hc.hnA
  have hnA2 := hc.hnA2
  have hlq := hc.hlq
  have hVv := val_dg V
  have hBB : BB = 1000000000 := rfl
  refine VLoop.ix true (fun y : Nat × List Nat × Nat => ⟨(18, .int .u64 y.2.2) :: (150, .int .i64 n) :: (151, .int .i64 y.1) :: (16, .int .u64 g) :: dFr f n nA lq V v1 v2 i, dHp y.2.1 q, []⟩)
    (fun y => y.1 ≤ n ∧ y.2.1.length = nA + 2 ∧ okL y.2.1 ∧ y.2.2 ≤ 1 ∧ (∀ k, k < i ∨ i + y.1 ≤ k → y.2.1.getD k 0 = u1.getD k 0) ∧ seg y.2.1 i y.1 + BB ^ y.1 * y.2.2 = seg u1 i y.1 + val ((dg V).take y.1)) (fun y => n - y.1) (0, u1, 0)
    ⟨Nat.zero_le _, hul1, hu1, Nat.zero_le _, fun _ _ => rfl, by simp [seg_zero, val]⟩ ⟨⟨rfl, rfl, rfl, rfl, rfl, rfl, rfl, rfl, rfl, rfl, rfl, rfl, trivial⟩, rfl, rfl⟩ ?_
  rintro ⟨k, u2, c⟩ ⟨hk, hul2, hu2, hcc, hs2, heq2⟩
  dsimp only at hk hul2 hu2 hcc hs2 heq2 ⊢
  repeat' ((conv => whnf); first | refine ngo ?_ | refine VB.tt ?_ | refine VB.ff ?_ | refine VNew.keep ?_ | refine dgo ?_ | refine sgo ?_ | fail)
  conv => whnf
  refine VB.dec (fun hkn => ?_) (fun hkn => ?_)
  · have hx := getD_lt hu2 (i + k)
    have hy := getD_lt (canon_dg V).1 k
    have gy : getInt (List.drop ((k : Int).toNat * 1) (limbs (dg V))) = (((dg V).getD k 0 : Nat) : Int) := by rw [Int.toNat_natCast, Nat.mul_one, getInt_limbs]
    have ek : ((k : Int) + (i : Int)).toNat = i + k := by omega
    have gx : getInt (List.drop (0 + ((k : Int) + (i : Int)).toNat * 1) (limbs u2)) = ((u2.getD (i + k) 0 : Nat) : Int) := by rw [ek, Nat.zero_add, Nat.mul_one, getInt_limbs]
    have hux := hs2 (i + k) (.inr (Nat.le_refl _))
    have hs3 := seg_succ (l := u1) (j := i) (i := k) (by omega)
    have ht3 := val_take_succ (l := dg V) (i := k) (by omega)
    have hs4 := fun c' => seg_succ (l := u2.set (i + k) c') (j := i) (i := k) (by rw [List.length_set]; omega)
    rw [← hux] at hs3
    generalize hyy : (dg V).getD k 0 = y at *
    generalize hxx : u2.getD (i + k) 0 = x at *
    obtain ⟨sm, hsm⟩ : ∃ sm, sm = x + y + c := ⟨_, rfl⟩
    have g0 : (x : Int) + (y : Int) + (c : Int) = (sm : Int) := by omega
    have hmd := Nat.mod_add_div sm BB
    have hmm := Nat.mod_lt sm (show 0 < BB by decide)
    have hmq : sm / BB ≤ 1 := Nat.le_of_lt_succ (Nat.div_lt_of_lt_mul (by omega))
    have g5 := tdiv_BB sm
    have g6 := tmod_BB sm
    generalize sm / BB = sq at *
    generalize sm % BB = sr at *
    repeat' ((conv => whnf); first | refine ngo ?_ | refine VB.tt ?_ | refine VB.ff ?_ | refine VNew.keep ?_ | refine dgo ?_ | refine sgo ?_ | fail)
    conv => whnf
    rw [gx]
    repeat' ((conv => whnf); first | refine ngo ?_ | refine VB.tt ?_ | refine VB.ff ?_ | refine VNew.keep ?_ | refine dgo ?_ | refine sgo ?_ | fail)
    conv => whnf
    rw [gy]
    repeat' ((conv => whnf); first | refine ngo ?_ | refine VB.tt ?_ | refine VB.ff ?_ | refine VNew.keep ?_ | refine dgo ?_ | refine sgo ?_ | fail)
    conv => whnf
    rw [g0]
    repeat' ((conv => whnf); first | refine ngo ?_ | refine VB.tt ?_ | refine VB.ff ?_ | refine VNew.keep ?_ | refine dgo ?_ | refine sgo ?_ | fail)
    conv => whnf
    rw [g6]
    repeat' ((conv => whnf); first | refine ngo ?_ | refine VB.tt ?_ | refine VB.ff ?_ | refine VNew.keep ?_ | refine dgo ?_ | refine sgo ?_ | fail)
    conv => whnf
    refine ⟨(k + 1, u2.set (i + k) sr, sq), ⟨by dsimp only; omega, by dsimp only; rw [List.length_set]; omega, okL_set hu2 _ hmm, hmq, ?_, ?_⟩, by dsimp only; omega, ⟨⟨?_, rfl, ?_, rfl, rfl, rfl, rfl, rfl, rfl, rfl, rfl, rfl, trivial⟩, ?_, rfl⟩⟩
    · intro k' hk'
      dsimp only at hk' ⊢
      rw [getD_set_ne' (by omega)]
      exact hs2 k' (by omega)
    · dsimp only
      rw [hs4, seg_set (Nat.le_refl _), getD_set_eq (by omega), hs3, ht3, Nat.pow_succ, Nat.mul_assoc]
      have e1 : BB ^ k * sr + BB ^ k * (BB * sq) = BB ^ k * x + BB ^ k * y + BB ^ k * c := by
        rw [← Nat.mul_add, hmd, hsm, Nat.mul_add, Nat.mul_add]
      omega
    · simp [lk, g5]
    · simp [lk]
    · show [AObj.cells _ _ (splice _ _ _), _, _] = _
      rw [ek, Nat.zero_add, Nat.mul_one, splice_limbs (by omega)]
      rfl
  · have : k = n := by omega
    subst this
    rw [List.take_of_length_le (by omega), hVv] at heq2
    repeat' ((conv => whnf); first | refine ngo ?_ | refine VB.tt ?_ | refine VB.ff ?_ | refine VNew.keep ?_ | refine dgo ?_ | refine sgo ?_ | fail)
    conv => whnf
    exact ⟨(u2, c), ⟨hul2, hu2, hcc, hs2, heq2⟩, ⟨⟨rfl, rfl, rfl, rfl, rfl, rfl, rfl, rfl, rfl, rfl, trivial⟩, rfl, rfl⟩⟩
end Go.Proofs.Ytoijfbdjlagooaa
