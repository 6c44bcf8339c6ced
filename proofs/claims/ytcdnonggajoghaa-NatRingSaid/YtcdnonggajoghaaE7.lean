/- The logic over abstract states: code, regions, calls, loops. -/
import Derived.Test.YtcdnonggajoghaaE6
import Derived.RangeFuncLeaves
namespace Go.Proofs.Ytcdnonggajoghaa
open Go Go.RowKit
set_option linter.unusedVariables false
set_option linter.unusedSimpArgs false

structure St where
  fr : Fr
  H : Heap
  df : List Nat

def DR (K : Conc) : List Nat → List Deferred → Prop
  | [], l => l = []
  | d :: ds, l => ∃ x r, l = x :: r ∧ (∃ i, K.blk[d]? = some i ∧ (i.ver = 0 → x = { target := .collected i.c, args := #[] })) ∧ DR K ds r

theorem DR.ext {K K' : Conc} (hx : Ext K K') : ∀ {ds : List Nat} {l : List Deferred}, DR K ds l → DR K' ds l
  | [], l, h => h
  | d :: ds, l, h => by
    obtain ⟨x, r, h1, ⟨i, h2, h3⟩, h4⟩ := h
    obtain ⟨i', e', l', s'⟩ := hx.blk d i h2
    refine ⟨x, r, h1, ⟨i', e', fun hv => ?_⟩, DR.ext hx h4⟩
    have := s' (by omega)
    subst this
    exact h3 hv

/-- In which round we are: the loop's abstract block, the machine's. -/
def RR (K : Conc) : Option Nat → Option Nat → Prop
  | none, ro => ro = none
  | some b, ro => ∃ i, K.blk[b]? = some i ∧ (i.ver = 0 → ro = some i.c) ∧ ro.isSome = true

theorem RR.ext {K K' : Conc} (hx : Ext K K') {rd ro : Option Nat} (h : RR K rd ro) : RR K' rd ro := by
  cases rd with
  | none => exact h
  | some b =>
    obtain ⟨i, h2, h3, h5⟩ := h
    obtain ⟨i', e', l', s'⟩ := hx.blk b i h2
    refine ⟨i', e', fun hv => ?_, h5⟩
    have := s' (by omega)
    subst this
    exact h3 hv

/-- The abstract state stands for the machine's. -/
structure SR (E : Env) (K : Conc) (N : Nat) (rd ro : Option Nat) (s : St) (a : Act) (w : World) : Prop where
  H : HR E K s.H w
  F : FR K N s.fr a.tmps
  D : DR K s.df a.defers
  R : RR K rd ro

def fence (ro : Option Nat) : Fence := { Fence.wide with round := ro }

def SPost (E : Env) (K : Conc) (N : Nat) (rd ro : Option Nat) (Q : Exit → St → Prop) : Exit → Act → World → Prop :=
  fun e a w => ∃ K' s, Ext K K' ∧ SR E K' N rd ro s a w ∧ Q e s

def AWp (E : Env) (N : Nat) (rd : Option Nat) (c : Code) (Q : Exit → St → Prop) (s : St) : Prop :=
  ∀ K ro a w, SR E K N rd ro s a w → c.wpIn (fence ro) 0 E.P (SPost E K N rd ro Q) a w

def AIx (E : Env) (N : Nat) (rd : Option Nat) (ops : Array Oper) (is : List Nat) (Q : Exit → St → Prop) (s : St) : Prop :=
  ∀ K0 K ro a w, Ext K0 K → SR E K N rd ro s a w → wpOpsIn (fence ro) 0 E.P ops (SPost E K0 N rd ro Q) is a w

/-- What a call of function f comes to. -/
def ACall (E : Env) (f : FuncId) (args : List AV) (H : Heap) (Q : AV → Heap → Prop) : Prop :=
  ∀ K cargs w, HR E K H w → VRL K args cargs → CallsIn Fence.wide 0 E.P f cargs.toArray w fun e w' => ∃ v cv K' H', e = .returned cv ∧ Ext K K' ∧ HR E K' H' w' ∧ VR K' v cv ∧ Q v H'

/-- What a round of the loop at block b comes to. -/
def ARound (E : Env) (b : Nat) (args : List AV) (H : Heap) (Q : AV → Heap → Prop) : Prop :=
  ∀ K cargs w, HR E K H w → VRL K args cargs → ∃ i l f tmps asg body, K.blk[b]? = some i ∧ (i.ver = 0) ∧ (Instr.yield i.c cargs.toArray).run E.P w = .ok (.round l f tmps asg body) w ∧
    RoundIn Fence.wide 0 E.P l f tmps asg body w fun e w' => ∃ v cv K' H', e = .returned cv ∧ Ext K K' ∧ HR E K' H' w' ∧ VR K' v cv ∧ Q v H'

section
variable {E : Env} {N : Nat} {rd : Option Nat} {Q Q' : Exit → St → Prop} {s : St}

theorem SPost.ext {K K' : Conc} {ro : Option Nat} (hx : Ext K K') {e : Exit} {a : Act} {w : World} (h : SPost E K' N rd ro Q e a w) : SPost E K N rd ro Q e a w := by
  obtain ⟨K2, s, h1, h2, h3⟩ := h
  exact ⟨K2, s, hx.trans h1, h2, h3⟩
theorem SPost.mono {K : Conc} {ro : Option Nat} (hq : ∀ e s, Q e s → Q' e s) {e : Exit} {a : Act} {w : World} (h : SPost E K N rd ro Q e a w) : SPost E K N rd ro Q' e a w := by
  obtain ⟨K2, s, h1, h2, h3⟩ := h
  exact ⟨K2, s, h1, h2, hq _ _ h3⟩

theorem AWp.mono {c : Code} (hq : ∀ e s, Q e s → Q' e s) (h : AWp E N rd c Q s) : AWp E N rd c Q' s :=
  fun K ro a w hr => wpIn_mono (h K ro a w hr) fun _ _ _ q => q.mono hq
theorem ACall.mono {f : FuncId} {args : List AV} {H : Heap} {R R' : AV → Heap → Prop} (hq : ∀ v H, R v H → R' v H) (h : ACall E f args H R) : ACall E f args H R' :=
  fun K cargs w h1 h2 => (h K cargs w h1 h2).mono fun e w' ⟨v, cv, K', H', x1, x2, x3, x4, x5⟩ => ⟨v, cv, K', H', x1, x2, x3, x4, hq _ _ x5⟩
theorem ARound.mono {f : Nat} {args : List AV} {H : Heap} {R R' : AV → Heap → Prop} (hq : ∀ v H, R v H → R' v H) (h : ARound E f args H R) : ARound E f args H R' := by
  intro K cargs w h1 h2
  obtain ⟨i, l, f, tmps, asg, body, y1, y2, y3, y4⟩ := h K cargs w h1 h2
  exact ⟨i, l, f, tmps, asg, body, y1, y2, y3, y4.mono fun e w' ⟨v, cv, K', H', x1, x2, x3, x4, x5⟩ => ⟨v, cv, K', H', x1, x2, x3, x4, hq _ _ x5⟩⟩

theorem AWp.of_post {c : Code} {K K0 : Conc} {ro : Option Nat} (hx : Ext K0 K) {a : Act} {w : World} (hr : SR E K N rd ro s a w) (h : AWp E N rd c Q s) : c.wpIn (fence ro) 0 E.P (SPost E K0 N rd ro Q) a w :=
  wpIn_mono (h K ro a w hr) fun _ _ _ q => q.ext hx

theorem AWp.skip (h : Q .normal s) : AWp E N rd .skip Q s := fun K ro a w hr => wpIn_skip ⟨K, s, Ext.refl K, hr, h⟩
theorem AWp.label {l : Nat} (h : Q .normal s) : AWp E N rd (.label l) Q s := fun K ro a w hr => wpIn_label ⟨K, s, Ext.refl K, hr, h⟩
theorem AWp.exit {i : Nat} (h : Q (.exit i) s) : AWp E N rd (.exit i) Q s := fun K ro a w hr => wpIn_exit ⟨K, s, Ext.refl K, hr, h⟩
theorem AWp.ret (h : Q .ret s) : AWp E N rd .ret Q s := fun K ro a w hr => wpIn_ret ⟨K, s, Ext.refl K, hr, h⟩

def Then (R : St → Prop) (Q : Exit → St → Prop) : Exit → St → Prop
  | .normal, s => R s
  | e, s => Q e s
def InBlock (id : Nat) (Q : Exit → St → Prop) : Exit → St → Prop
  | .exit i, s => if i = id then Q .normal s else Q (.exit i) s
  | e, s => Q e s

theorem AWp.seq {x y : Code} (h : AWp E N rd x (Then (AWp E N rd y Q) Q) s) : AWp E N rd (.seq x y) Q s := by
  intro K ro a w hr
  refine wpIn_seq (wpIn_mono (h K ro a w hr) fun e a' w' q => ?_)
  obtain ⟨K', s', hx, hr', hq⟩ := q
  cases e with
  | normal => exact hq.of_post hx hr'
  | _ => exact ⟨K', s', hx, hr', hq⟩

theorem AWp.cond {c : Operand} {x y : Code} {t : Bool} (hc : ev E s.fr c = some (.bool t)) (h : AWp E N rd (if t then x else y) Q s) : AWp E N rd (.cond c x y) Q s := by
  intro K ro a w hr
  have := ev_sound hr.H hr.F hc
  simp only [VR] at this
  exact wpIn_cond this (h K ro a w hr)

theorem AWp.block {id : Nat} {c : Code} (h : AWp E N rd c (InBlock id Q) s) : AWp E N rd (.block id c) Q s := by
  intro K ro a w hr
  refine wpIn_block (wpIn_mono (h K ro a w hr) fun e a' w' q => ?_)
  obtain ⟨K', s', hx, hr', hq⟩ := q
  cases e with
  | exit i =>
    simp only [InBlock, Exit.inBlock] at hq ⊢
    split <;> rename_i hi
    · rw [if_pos hi] at hq; exact ⟨K', s', hx, hr', hq⟩
    · rw [if_neg hi] at hq; exact ⟨K', s', hx, hr', hq⟩
  | _ => exact ⟨K', s', hx, hr', hq⟩

theorem wpIn_loop_ix {F : Fence} {P : Program} {c : Code} {R : Exit → Act → World → Prop} {a : Act} {w : World} (I : Nat → Act → World → Prop) {n0 : Nat} (h0 : I n0 a w)
    (round : ∀ j a w, I j a w → c.wpIn F 0 P (Exit.then (fun a' w' => ∃ m, m < j ∧ I m a' w') R) a w) : (Code.loop c).wpIn F 0 P R a w := by
  have ex : ∀ a w, (∃ j, I j a w) → ∃ j, I j a w ∧ ∀ m, I m a w → j ≤ m := by
    rintro a w ⟨j, hj⟩
    induction j using Nat.strongRecOn with
    | _ j ih =>
      by_cases hm : ∃ m, m < j ∧ I m a w
      · obtain ⟨m, hm1, hm2⟩ := hm
        exact ih m hm1 hm2
      · exact ⟨j, hj, fun m hm' => Nat.le_of_not_lt fun hlt => hm ⟨m, hlt, hm'⟩⟩
  let μ : Act → World → Nat := fun a w => open Classical in if h : ∃ j, I j a w then (ex a w h).choose else 0
  have hμ : ∀ a w, (∃ j, I j a w) → I (μ a w) a w ∧ ∀ m, I m a w → μ a w ≤ m := by
    intro a w h
    have : μ a w = (ex a w h).choose := by simp [μ, h]
    rw [this]
    exact (ex a w h).choose_spec
  refine wpIn_loop (fun a w => ∃ j, I j a w) μ ⟨n0, h0⟩ fun a w hI => ?_
  obtain ⟨h1, h2⟩ := hμ a w hI
  refine wpIn_mono (round _ a w h1) fun e a' w' q => ?_
  cases e with
  | normal =>
    obtain ⟨m, hm, hI'⟩ := q
    exact ⟨⟨m, hI'⟩, Nat.lt_of_le_of_lt ((hμ a' w' ⟨m, hI'⟩).2 m hI') hm⟩
  | _ => exact q

theorem AWp.loop {c : Code} (I : Nat → St → Prop) {n0 : Nat} (h0 : I n0 s) (round : ∀ j s, I j s → AWp E N rd c (Then (fun s' => ∃ m, m < j ∧ I m s') Q) s) : AWp E N rd (.loop c) Q s := by
  intro K ro a w hr
  refine wpIn_loop_ix (fun j a w => ∃ K' s', Ext K K' ∧ SR E K' N rd ro s' a w ∧ I j s') ⟨K, s, Ext.refl K, hr, h0⟩ ?_
  rintro j a w ⟨K', s', hx, hr', hI⟩
  refine wpIn_mono (round j s' hI K' ro a w hr') fun e a' w' q => ?_
  obtain ⟨K2, s2, hx2, hr2, hq⟩ := q
  cases e with
  | normal =>
    obtain ⟨m, hm, hI'⟩ := hq
    exact ⟨m, hm, K2, s2, hx.trans hx2, hr2, hI'⟩
  | _ => exact ⟨K2, s2, hx.trans hx2, hr2, hq⟩

/-! ### Regions -/
def putd (N : Nat) (fr : Fr) : Option Tmp → AV → Option Fr
  | none, _ => some fr
  | some d, v => if d < N then some ((d, v) :: fr) else none

theorem putd_sound {K : Conc} {fr fr' : Fr} {a : Act} {d : Option Tmp} {v : AV} {cv : Value} (hF : FR K N fr a.tmps) (hv : VR K v cv) (h : putd N fr d v = some fr') : FR K N fr' (a.put d cv).tmps := by
  cases d with
  | none => simp only [putd] at h; cases h; exact hF
  | some d =>
    simp only [putd] at h
    split at h
    · rename_i hd; cases h; exact hF.put hd hv
    · cases h

/-- Does the operation run? -/
def gd (fr : Fr) (ops : Array Oper) (o : Oper) : Option Bool :=
  match o.guard with
  | none => some true
  | some (j, want) => match (ops[j]?).bind (·.dst) with
    | none => some false
    | some d => match lk fr d with
      | some (.bool b) => some (b == want)
      | some (.tup _) => some false
      | _ => none

theorem gd_sound {K : Conc} {fr : Fr} {a : Act} {ops : Array Oper} {o : Oper} {t : Bool} (hF : FR K N fr a.tmps) (h : gd fr ops o = some t) : Region.wanted o (yielded ops a.tmps) = t := by
  unfold gd at h
  unfold Region.wanted
  split at h
  · rename_i hg; cases h; rw [hg]
  · rename_i j want hg
    rw [hg]
    simp only [yielded]
    split at h
    · rename_i hd; cases h; rw [hd]; rfl
    · rename_i d hd
      rw [hd]
      simp only [Option.bind_some]
      split at h
      · rename_i b hb
        cases h
        have := hF.2 d _ hb
        simp only [VR] at this
        have hlt : d < a.tmps.size := by
          rcases Nat.lt_or_ge d a.tmps.size with h' | h'
          · exact h'
          · rw [Array.getD_eq_getD_getElem?, Array.getElem?_eq_none h'] at this
            simp [undef] at this
        have e : a.tmps[d]? = some (.bool b) := by
          rw [Array.getD_eq_getD_getElem?] at this
          simp [hlt] at this
          simp [hlt, this]
        rw [e]
        cases b <;> cases want <;> rfl
      · rename_i vs hb
        cases h
        have := hF.2 d _ hb
        simp only [VR] at this
        obtain ⟨us, h1, _⟩ := this
        cases he : a.tmps[d]? with
        | none => simp
        | some u =>
          rw [Array.getD_eq_getD_getElem?, he] at h1
          simp at h1
          subst h1
          simp
      · cases h

theorem AIx.nil {ops : Array Oper} (h : Q .normal s) : AIx E N rd ops [] Q s := fun K0 K ro a w hx hr => ⟨K, s, hx, hr, h⟩

theorem about_wide {F : Fence} (h : F.fn = fun _ => True) (x : Option FuncId) : ∀ f, x = some f → F.fn f := by intro f _; rw [h]; trivial

theorem AIx.op {ops : Array Oper} {i : Nat} {is : List Nat} {o : Oper} {v : AV} {H' : Heap} {fr' : Fr} (ho : ops[i]? = some o) (hg : gd s.fr ops o = some true) (hop : aop E s.fr s.H o.op o.type = some (v, H'))
    (hp : putd N s.fr o.dst v = some fr') (h : AIx E N rd ops is Q { s with fr := fr', H := H' }) : AIx E N rd ops (i :: is) Q s := by
  intro K0 K ro a w hx0 hr
  obtain ⟨hdef, K', cv, w', nx, x1, x2, x3, x4, x5⟩ := aop_sound hr.H hr.F hop
  have hF' := putd_sound (hr.F.ext x1) x5 hp
  have hnext : wpOpsIn (fence ro) 0 E.P ops (SPost E K0 N rd ro Q) is (a.put o.dst cv) w' :=
    h K0 K' ro _ w' (hx0.trans x1) ⟨x4, hF', by cases o.dst <;> exact hr.D.ext x1, hr.R.ext x1⟩
  simp only [wpOpsIn, ho, gd_sound hr.F hg, if_true]
  refine ⟨about_wide rfl _, ?_⟩
  rw [show (fence ro).round = ro from rfl, Oper.semAt_eq ro a.eval o hdef, x2]
  rcases x3 with rfl | ⟨rfl, rfl⟩
  · exact hnext
  · exact hnext

/-- An operation that its guard lets out. -/
theorem AIx.pass {ops : Array Oper} {i : Nat} {is : List Nat} {o : Oper} {fr' : Fr} (ho : ops[i]? = some o) (hg : gd s.fr ops o = some false)
    (hp : putd N s.fr o.dst (.tup []) = some fr') (h : AIx E N rd ops is Q { s with fr := fr' }) : AIx E N rd ops (i :: is) Q s := by
  intro K0 K ro a w hx0 hr
  simp only [wpOpsIn, ho, gd_sound hr.F hg, Bool.false_eq_true, if_false]
  refine ⟨about_wide rfl _, h K0 K ro _ w hx0 ⟨hr.H, putd_sound (v := .tup []) (cv := undef) hr.F (by simp only [VR]; exact ⟨#[], rfl, rfl⟩) hp, by cases o.dst <;> exact hr.D, hr.R⟩⟩

/-- A call of a Go function, named or as a value. -/
theorem AIx.call {ops : Array Oper} {i : Nat} {is : List Nat} {o : Oper} {f : Operand} {args : Array Operand} {ts : Array TypeId} {g : FuncId} {first cap xs : List AV} {fn : Func} (ho : ops[i]? = some o) (hg : gd s.fr ops o = some true)
    (hop : o.op = .call { callee := .value f, args := args, argTypes := ts }) (hf : ev E s.fr f = some (.fn (.func g) first cap)) (hxs : evs E s.fr args.toList = some xs)
    (hfn : E.P.funcs[g]? = some fn) (hbody : fn.body.isSome = true) (hname : (fn.name == "runtime.NumGoroutine") = false)
    (h : ACall E g (first ++ xs ++ cap) s.H fun v H' => ∃ fr', putd N s.fr o.dst v = some fr' ∧ AIx E N rd ops is Q { s with fr := fr', H := H' }) : AIx E N rd ops (i :: is) Q s := by
  intro K0 K ro a w hx0 hr
  simp only [wpOpsIn, ho, gd_sound hr.F hg, if_true]
  refine ⟨about_wide rfl _, ?_⟩
  have e1 := ev_sound hr.H hr.F hf
  simp only [VR] at e1
  obtain ⟨hy, fs, cs, e2, v1, v2⟩ := e1
  have e3 := evs_sound (K := K) hr.H hr.F hxs
  have hbn : ¬ fn.body = none := by intro hb; rw [hb] at hbody; cases hbody
  have hnn : ¬ fn.name = "runtime.NumGoroutine" := by simpa using hname
  have hrun : (execOp a.eval o).run E.P w = .ok (.enter g (fs ++ args.map a.eval ++ cs)) w := by
    simp [execOp, hop, resolve, e2, Deferred.ofValue, invoke, callFunc, hfn, hbn, hnn]
  rw [show (fence ro).round = ro from rfl, Oper.semAt_eq ro a.eval o (by intro c; rw [hop]; simp), hrun]
  refine ⟨fun hh => by simp [fence, Fence.wide] at hh, ?_⟩
  have hc := h K (fs.toList ++ args.toList.map a.eval ++ cs.toList) w hr.H ((v1.append e3).append v2)
  have hargs : (fs.toList ++ args.toList.map a.eval ++ cs.toList).toArray = fs ++ args.map a.eval ++ cs := by apply Array.ext'; simp
  rw [hargs] at hc
  have hc' : CallsIn (fence ro) 0 E.P g (fs ++ args.map a.eval ++ cs) w fun e w' => ∃ v cv K' H', e = .returned cv ∧ Ext K K' ∧ HR E K' H' w' ∧ VR K' v cv ∧ ∃ fr', putd N s.fr o.dst v = some fr' ∧ AIx E N rd ops is Q { s with fr := fr', H := H' } := by
    cases ro with
    | none => exact hc
    | some l => exact hc
  refine hc'.mono fun e w' ⟨v, cv, K', H', he, hx, hH, hv, fr', hp, hq⟩ => ?_
  subst he
  exact hq K0 K' ro _ w' (hx0.trans hx) ⟨hH, putd_sound (hr.F.ext hx) hv hp, by cases o.dst <;> exact hr.D.ext hx, hr.R.ext hx⟩

/-- A call of a loop's own yield. -/
theorem AIx.yield {ops : Array Oper} {i : Nat} {is : List Nat} {o : Oper} {f : Operand} {args : Array Operand} {ts : Array TypeId} {b : Nat} {xs : List AV} (ho : ops[i]? = some o) (hg : gd s.fr ops o = some true)
    (hop : o.op = .call { callee := .value f, args := args, argTypes := ts }) (hf : ev E s.fr f = some (.yld b)) (hxs : evs E s.fr args.toList = some xs)
    (h : ARound E b xs s.H fun v H' => ∃ fr', putd N s.fr o.dst v = some fr' ∧ AIx E N rd ops is Q { s with fr := fr', H := H' }) : AIx E N rd ops (i :: is) Q s := by
  intro K0 K ro a w hx0 hr
  simp only [wpOpsIn, ho, gd_sound hr.F hg, if_true]
  refine ⟨about_wide rfl _, ?_⟩
  have e1 := ev_sound hr.H hr.F hf
  simp only [VR] at e1
  obtain ⟨_, j, hj, e2⟩ := e1
  have e3 := evs_sound (K := K) hr.H hr.F hxs
  obtain ⟨j', l, fn, tmps, asg, body, y1, y2, y3, y4⟩ := h K (args.toList.map a.eval) w hr.H e3
  have : j' = j := Option.some.inj (y1.symm.trans hj)
  subst this
  have e4 := e2 y2
  have hargs : (args.toList.map a.eval).toArray = args.map a.eval := by apply Array.ext'; simp
  rw [hargs] at y3
  have hrun : (execOp a.eval o).run E.P w = .ok (.round l fn tmps asg body) w := by
    simp [execOp, hop, resolve, e4, Deferred.ofValue, invoke, y3]
  rw [show (fence ro).round = ro from rfl, Oper.semAt_eq ro a.eval o (by intro c; rw [hop]; simp), hrun]
  refine ⟨fun hh => by simp [fence, Fence.wide] at hh, ?_⟩
  have y4' : RoundIn (fence ro) 0 E.P l fn tmps asg body w fun e w' => ∃ v cv K' H', e = .returned cv ∧ Ext K K' ∧ HR E K' H' w' ∧ VR K' v cv ∧ ∃ fr', putd N s.fr o.dst v = some fr' ∧ AIx E N rd ops is Q { s with fr := fr', H := H' } := y4
  refine y4'.mono fun e w' ⟨v, cv, K', H', he, hx, hH, hv, fr', hp, hq⟩ => ?_
  subst he
  exact hq K0 K' ro _ w' (hx0.trans hx) ⟨hH, putd_sound (hr.F.ext hx) hv hp, by cases o.dst <;> exact hr.D.ext hx, hr.R.ext hx⟩

theorem AWp.region {id : Nat} {ops : Array Oper} (h : AIx E N rd ops (List.range ops.size) Q s) : AWp E N rd (.region id ops false) Q s :=
  fun K ro a w hr => wpIn_region (h K K ro a w (Ext.refl K) hr)

/-! ### Functions -/
def mkFr : Nat → List AV → Fr
  | _, [] => []
  | k, a :: as => (k, a) :: mkFr (k + 1) as

theorem lk_mkFr : ∀ {as : List AV} {k n : Nat} {v : AV}, lk (mkFr k as) n = some v → k ≤ n ∧ as[n - k]? = some v
  | [], k, n, v, h => by simp [mkFr, lk] at h
  | a :: as, k, n, v, h => by
    simp only [mkFr, lk] at h
    split at h
    · rename_i hk
      cases h
      subst hk
      simp
    · rename_i hk
      obtain ⟨h1, h2⟩ := lk_mkFr h
      refine ⟨by omega, ?_⟩
      rw [show n - k = (n - (k + 1)) + 1 by omega]
      simpa using h2

theorem FR.args {K : Conc} {args : List AV} {cargs : List Value} {N : Nat} (h : VRL K args cargs) (hn : args.length ≤ N) : FR K N (mkFr 0 args) (cargs.toArray ++ Array.replicate (N - cargs.toArray.size) undef) := by
  have hl := h.length
  refine ⟨by simp; omega, fun k v e => ?_⟩
  obtain ⟨_, h2⟩ := lk_mkFr e
  simp at h2
  obtain ⟨u, h3, h4⟩ := h.get k v h2
  have hlt : k < cargs.length := (List.getElem?_eq_some_iff.1 h3).1
  rw [Array.getD_eq_getD_getElem?, Array.getElem?_append_left (by simpa using hlt)]
  simp [h3]
  exact h4

def gone : List Nat → Heap → Option Heap
  | [], H => some H
  | d :: ds, H => match H[d]? with
    | some .dfr => gone ds (H.set d .gone)
    | _ => none

theorem run_takeDeferred {P : Program} {w : World} {c : Nat} (h : w.heap[c]? = some (.deferred (some []))) : (Instr.takeDeferred c).run P w = .ok [] { w with heap := w.heap.setIfInBounds c (.deferred none) } := by
  simp [Instr.takeDeferred, getObj, setObj, Sem.run, h]

/-- One result variable. -/
def ares1 (E : Env) (fr : Fr) (H : Heap) : ResultVar → Option AV
  | .tmp t => lk fr t
  | .cell a t => match lk fr a with
    | some p => match cellsAt H p with
      | some _ => aload E H t p
      | none => none
    | none => none
def aresL (E : Env) (fr : Fr) (H : Heap) : List ResultVar → Option (List AV)
  | [] => some []
  | r :: rs => match ares1 E fr H r, aresL E fr H rs with
    | some v, some vs => some (v :: vs)
    | _, _ => none
def ares (E : Env) (fr : Fr) (H : Heap) (rs : List ResultVar) : Option AV := match aresL E fr H rs with
  | some [v] => some v
  | some vs => some (.tup vs)
  | none => none

def resOne (t : Array Value) (r : ResultVar) : Sem Value := match r with
  | .tmp x => pure (t.getD x undef)
  | .cell a x => do loadVar x (← asAddr (t.getD a undef))

theorem results_eq (fn : Func) (t : Array Value) : results fn t = (do
    let vs ← fn.results.mapM (resOne t)
    pure (if h : vs.size = 1 then vs[0] else .tuple vs)) := by
  unfold results
  congr 1

theorem ares1_sound {K : Conc} {fr : Fr} {H : Heap} {t : Array Value} {w : World} (hH : HR E K H w) (hF : FR K N fr t) {r : ResultVar} {v : AV} (h : ares1 E fr H r = some v) : QOK E K w (resOne t r) v := by
  cases r with
  | tmp x => exact ⟨_, rfl, hF.2 x v h⟩
  | cell a x =>
    simp only [ares1] at h
    split at h
    · rename_i p hp
      split at h
      · rename_i cs hc
        have hr := hF.2 a p hp
        obtain ⟨b, o, us, e1, _⟩ := cellsAt_spec hH hr hc
        obtain ⟨cv, h1, h2⟩ := aload_sound hH hr h
        refine ⟨cv, ?_, h2⟩
        rw [e1] at h1
        simp only [resOne, e1]
        simpa [Instr.loadAt, Instr.sureAddr, asAddr] using h1
      · cases h
    · cases h

theorem aresL_sound {K : Conc} {fr : Fr} {H : Heap} {t : Array Value} {w : World} (hH : HR E K H w) (hF : FR K N fr t) : ∀ {rs : List ResultVar} {vs : List AV}, aresL E fr H rs = some vs →
    ∃ cvs, (rs.mapM (resOne t)).run E.P w = Result.ok cvs w ∧ VRL K vs cvs
  | [], vs, h => by simp only [aresL] at h; cases h; exact ⟨[], rfl, rfl⟩
  | r :: rs, vs, h => by
    simp only [aresL] at h
    split at h
    · rename_i v vs' h1 h2
      cases h
      obtain ⟨cv, g1, g2⟩ := ares1_sound hH hF h1
      obtain ⟨cvs, g3, g4⟩ := aresL_sound hH hF h2
      refine ⟨cv :: cvs, ?_, cv, cvs, rfl, g2, g4⟩
      simp only [List.mapM_cons, Sem.run_bind, g1, Result.andThen_ok, g3, Sem.run_pure]
    · cases h

theorem ares_sound {K : Conc} {fr : Fr} {H : Heap} {t : Array Value} {w : World} {fn : Func} (hH : HR E K H w) (hF : FR K N fr t) {v : AV} (h : ares E fr H fn.results.toList = some v) :
    ∃ cv, (results fn t).run E.P w = .ok cv w ∧ VR K v cv := by
  unfold ares at h
  have e : fn.results = fn.results.toList.toArray := by simp
  have key : ∀ cvs, (fn.results.toList.mapM (resOne t)).run E.P w = Result.ok cvs w → (results fn t).run E.P w = .ok (if h : cvs.toArray.size = 1 then cvs.toArray[0] else .tuple cvs.toArray) w := by
    intro cvs g1
    rw [results_eq, e, List.mapM_toArray]
    simp only [Sem.run_bind, Sem.run_map, g1, Result.andThen_ok, Sem.run_pure]
  split at h
  · rename_i u hu
    cases h
    obtain ⟨cvs, g1, g2⟩ := aresL_sound hH hF hu
    simp only [VRL] at g2
    obtain ⟨x, xs, e1, g3, e2⟩ := g2
    subst e2 e1
    exact ⟨x, by rw [key _ g1]; simp, g3⟩
  · rename_i vs hn hu
    cases h
    obtain ⟨cvs, g1, g2⟩ := aresL_sound hH hF hu
    have hl := g2.length
    refine ⟨.tuple cvs.toArray, ?_, _, rfl, by simpa using g2⟩
    have h1 : ¬ cvs.length = 1 := by
      intro h1
      rw [← hl] at h1
      obtain ⟨u, rfl⟩ := List.length_eq_one_iff.1 h1
      exact hn u rfl
    rw [key _ g1]
    simp [h1]
  · cases h

/-- What the end of a function's body owes. -/
def RetPost (E : Env) (fn : Func) (Q : AV → Heap → Prop) : Exit → St → Prop
  | .normal, s | .ret, s => ∃ H2 v, gone s.df s.H = some H2 ∧ ares E s.fr H2 fn.results.toList = some v ∧ Q v H2
  | _, _ => False

theorem leaves_of {K : Conc} {fn : Func} {t : Array Value} {R : AV → Heap → Prop} {fr : Fr} {v : AV} : ∀ {df : List Nat} {ds : List Deferred} {H H2 : Heap} {K1 : Conc} {w : World}, Ext K K1 → HR E K1 H w → FR K1 N fr t → DR K1 df ds →
    gone df H = some H2 → ares E fr H2 fn.results.toList = some v → R v H2 →
    LeavesInM Fence.wide 0 E.P fn t (fun e w' => ∃ v cv K' H', e = .returned cv ∧ Ext K K' ∧ HR E K' H' w' ∧ VR K' v cv ∧ R v H') ds .returning w
  | [], ds, H, H2, K1, w, hx, hH, hF, hD, hg, ha, hR => by
    simp only [DR] at hD
    subst hD
    simp only [gone] at hg
    cases hg
    obtain ⟨cv, h1, h2⟩ := ares_sound (fn := fn) hH hF ha
    exact ⟨cv, h1, v, cv, K1, H, rfl, hx, hH, h2, hR⟩
  | d :: df, ds, H, H2, K1, w, hx, hH, hF, hD, hg, ha, hR => by
    obtain ⟨x, r, rfl, ⟨i, hi, hxi⟩, hD⟩ := hD
    simp only [gone] at hg
    split at hg
    · rename_i hd
      have ho := hH.obj d _ i hd hi
      have hxi := hxi ho.1
      subst hxi
      have htake := run_takeDeferred (P := E.P) ho.2
      have hx' := Conc.ext_upd (K := K1) hi (Nat.le_refl _) (fun _ => rfl)
      have hg2 : w.grownBy { w with heap := w.heap.setIfInBounds i.c (.deferred none) } (some i.c) := by
        refine ⟨rfl, rfl, rfl, by simp, fun k hk hne => ?_⟩
        have : i.c ≠ k := fun h => hne (by rw [h])
        simp [Array.getElem?_setIfInBounds_ne this]
      have hH' := hH.upd (o := .gone) hd rfl hi (Nat.le_refl _) (fun _ => rfl) (.inl rfl) hg2 (by have := ho.at_; simp only [OR]; simpa using this)
      refine ⟨by simp, .inl ⟨i.c, _, rfl, htake, ?_⟩⟩
      exact leaves_of (hx.trans hx') hH' (hF.ext hx') (hD.ext hx') hg ha hR
    · cases hg

theorem ACall.of_body {f : FuncId} {fn : Func} {c : Code} {args : List AV} {H : Heap} {R : AV → Heap → Prop} (hf : E.P.funcs[f]? = some fn) (hb : fn.body = some c) (hn : args.length ≤ fn.ntmps)
    (h : AWp E fn.ntmps none c (RetPost E fn R) ⟨mkFr 0 args, H, []⟩) : ACall E f args H R := by
  intro K cargs w hH hv
  refine callsIn_of_wp_marks hf hb trivial ?_
  have h0 : SR E K fn.ntmps none none ⟨mkFr 0 args, H, []⟩ { tmps := cargs.toArray ++ Array.replicate (fn.ntmps - cargs.toArray.size) undef, defers := [] } w :=
    ⟨hH, FR.args hv hn, rfl, rfl⟩
  refine wpIn_mono (h K none _ w h0) fun e a' w' q => ?_
  obtain ⟨K', s, hx, hr, hq⟩ := q
  cases e with
  | normal =>
    obtain ⟨H2, v, h1, h2, h3⟩ := hq
    exact leaves_of hx hr.H hr.F hr.D h1 h2 h3
  | ret =>
    obtain ⟨H2, v, h1, h2, h3⟩ := hq
    exact leaves_of hx hr.H hr.F hr.D h1 h2 h3
  | _ => exact hq.elim

end

end Go.Proofs.Ytcdnonggajoghaa
