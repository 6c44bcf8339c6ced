/- The program logic and the contracts that a law leans on, part 1. -/
import Derived.Test.YtoijfbdjlagooaaA0
import Derived.RangeFuncLeaves
import Derived.StillTail
import Derived.OrdersIn
/- The logic over abstract states: code, regions, calls, loops. -/
namespace Go.Proofs.Ytoijfbdjlagooaa
open Go Go.RowKit
set_option linter.unusedVariables false
set_option linter.unusedSimpArgs false

structure St where
  fr : Fr
  H : Heap
  df : List Nat

def DR (K : Conc) : List Nat → List Deferred → Prop
  | [], l => l = []
  | d :: ds, l => ∃ x r, l = x :: r ∧ (∃ i, K.blk[d]? = some i ∧ (i.ver = 0 → x = { target := .collected i.c, args := #[] })) ∧ DR K ds r

theorem DR.ext {K K' : Conc} (hx : Ext K K') : ∀ {ds : List Nat} {l : List Deferred}, DR K ds l → DR K' ds l
  | [], l, h => h
  | d :: ds, l, h => by
    obtain ⟨x, r, h1, ⟨i, h2, h3⟩, h4⟩ := h
    obtain ⟨i', e', l', s'⟩ := hx.blk d i h2
    refine ⟨x, r, h1, ⟨i', e', fun hv => ?_⟩, DR.ext hx h4⟩
    have := s' (by omega)
    subst this
    exact h3 hv

/-- In which round we are: the loop's abstract block, the machine's. -/
def RR (K : Conc) : Option Nat → Option Nat → Prop
  | none, ro => ro = none
  | some b, ro => ∃ i, K.blk[b]? = some i ∧ (i.ver = 0 → ro = some i.c) ∧ ro.isSome = true

theorem RR.ext {K K' : Conc} (hx : Ext K K') {rd ro : Option Nat} (h : RR K rd ro) : RR K' rd ro := by
  cases rd with
  | none => exact h
  | some b =>
    obtain ⟨i, h2, h3, h5⟩ := h
    obtain ⟨i', e', l', s'⟩ := hx.blk b i h2
    refine ⟨i', e', fun hv => ?_, h5⟩
    have := s' (by omega)
    subst this
    exact h3 hv

/-- The abstract state stands for the machine's. -/
structure SR (E : Env) (K : Conc) (N : Nat) (rd ro : Option Nat) (s : St) (a : Act) (w : World) : Prop where
  H : HR E K s.H w
  F : FR K N s.fr a.tmps
  D : DR K s.df a.defers
  R : RR K rd ro

def fence (ro : Option Nat) : Fence := { Fence.wide with round := ro }

def SPost (E : Env) (K : Conc) (N : Nat) (rd ro : Option Nat) (Q : Exit → St → Prop) : Exit → Act → World → Prop :=
  fun e a w => ∃ K' s, Ext K K' ∧ SR E K' N rd ro s a w ∧ Q e s

def AWp (E : Env) (N : Nat) (rd : Option Nat) (c : Code) (Q : Exit → St → Prop) (s : St) : Prop :=
  ∀ K ro a w, SR E K N rd ro s a w → c.wpIn (fence ro) 0 E.P (SPost E K N rd ro Q) a w

def AIx (E : Env) (N : Nat) (rd : Option Nat) (ops : Array Oper) (is : List Nat) (Q : Exit → St → Prop) (s : St) : Prop :=
  ∀ K0 K ro a w, Ext K0 K → SR E K N rd ro s a w → wpOpsIn (fence ro) 0 E.P ops (SPost E K0 N rd ro Q) is a w

/-- What a call of function f comes to. -/
def ACall (E : Env) (f : FuncId) (args : List AV) (H : Heap) (Q : AV → Heap → Prop) : Prop :=
  ∀ K cargs w, HR E K H w → VRL K args cargs → CallsIn Fence.wide 0 E.P f cargs.toArray w fun e w' => ∃ v cv K' H', e = .returned cv ∧ Ext K K' ∧ HR E K' H' w' ∧ VR K' v cv ∧ Q v H'

/-- What a round of the loop at block b comes to. -/
def ARound (E : Env) (b : Nat) (args : List AV) (H : Heap) (Q : AV → Heap → Prop) : Prop :=
  ∀ K cargs w, HR E K H w → VRL K args cargs → ∃ i l f tmps asg body, K.blk[b]? = some i ∧ (i.ver = 0) ∧ (Instr.yield i.c cargs.toArray).run E.P w = .ok (.round l f tmps asg body) w ∧
    RoundIn Fence.wide 0 E.P l f tmps asg body w fun e w' => ∃ v cv K' H', e = .returned cv ∧ Ext K K' ∧ HR E K' H' w' ∧ VR K' v cv ∧ Q v H'

section
variable {E : Env} {N : Nat} {rd : Option Nat} {Q Q' : Exit → St → Prop} {s : St}

theorem SPost.ext {K K' : Conc} {ro : Option Nat} (hx : Ext K K') {e : Exit} {a : Act} {w : World} (h : SPost E K' N rd ro Q e a w) : SPost E K N rd ro Q e a w := by
  obtain ⟨K2, s, h1, h2, h3⟩ := h
  exact ⟨K2, s, hx.trans h1, h2, h3⟩
theorem SPost.mono {K : Conc} {ro : Option Nat} (hq : ∀ e s, Q e s → Q' e s) {e : Exit} {a : Act} {w : World} (h : SPost E K N rd ro Q e a w) : SPost E K N rd ro Q' e a w := by
  obtain ⟨K2, s, h1, h2, h3⟩ := h
  exact ⟨K2, s, h1, h2, hq _ _ h3⟩

theorem AWp.mono {c : Code} (hq : ∀ e s, Q e s → Q' e s) (h : AWp E N rd c Q s) : AWp E N rd c Q' s :=
  fun K ro a w hr => wpIn_mono (h K ro a w hr) fun _ _ _ q => q.mono hq
theorem ACall.mono {f : FuncId} {args : List AV} {H : Heap} {R R' : AV → Heap → Prop} (hq : ∀ v H, R v H → R' v H) (h : ACall E f args H R) : ACall E f args H R' :=
  fun K cargs w h1 h2 => (h K cargs w h1 h2).mono fun e w' ⟨v, cv, K', H', x1, x2, x3, x4, x5⟩ => ⟨v, cv, K', H', x1, x2, x3, x4, hq _ _ x5⟩
theorem ARound.mono {f : Nat} {args : List AV} {H : Heap} {R R' : AV → Heap → Prop} (hq : ∀ v H, R v H → R' v H) (h : ARound E f args H R) : ARound E f args H R' := by
  intro K cargs w h1 h2
  obtain ⟨i, l, f, tmps, asg, body, y1, y2, y3, y4⟩ := h K cargs w h1 h2
  exact ⟨i, l, f, tmps, asg, body, y1, y2, y3, y4.mono fun e w' ⟨v, cv, K', H', x1, x2, x3, x4, x5⟩ => ⟨v, cv, K', H', x1, x2, x3, x4, hq _ _ x5⟩⟩

theorem AWp.of_post {c : Code} {K K0 : Conc} {ro : Option Nat} (hx : Ext K0 K) {a : Act} {w : World} (hr : SR E K N rd ro s a w) (h : AWp E N rd c Q s) : c.wpIn (fence ro) 0 E.P (SPost E K0 N rd ro Q) a w :=
  wpIn_mono (h K ro a w hr) fun _ _ _ q => q.ext hx

theorem AWp.skip (h : Q .normal s) : AWp E N rd .skip Q s := fun K ro a w hr => wpIn_skip ⟨K, s, Ext.refl K, hr, h⟩
theorem AWp.label {l : Nat} (h : Q .normal s) : AWp E N rd (.label l) Q s := fun K ro a w hr => wpIn_label ⟨K, s, Ext.refl K, hr, h⟩
theorem AWp.exit {i : Nat} (h : Q (.exit i) s) : AWp E N rd (.exit i) Q s := fun K ro a w hr => wpIn_exit ⟨K, s, Ext.refl K, hr, h⟩
theorem AWp.ret (h : Q .ret s) : AWp E N rd .ret Q s := fun K ro a w hr => wpIn_ret ⟨K, s, Ext.refl K, hr, h⟩

def Then (R : St → Prop) (Q : Exit → St → Prop) : Exit → St → Prop
  | .normal, s => R s
  | e, s => Q e s
def InBlock (id : Nat) (Q : Exit → St → Prop) : Exit → St → Prop
  | .exit i, s => if i = id then Q .normal s else Q (.exit i) s
  | e, s => Q e s

theorem AWp.seq {x y : Code} (h : AWp E N rd x (Then (AWp E N rd y Q) Q) s) : AWp E N rd (.seq x y) Q s := by
  intro K ro a w hr
  refine wpIn_seq (wpIn_mono (h K ro a w hr) fun e a' w' q => ?_)
  obtain ⟨K', s', hx, hr', hq⟩ := q
  cases e with
  | normal => exact hq.of_post hx hr'
  | _ => exact ⟨K', s', hx, hr', hq⟩

theorem AWp.cond {c : Operand} {x y : Code} {t : Bool} (hc : ev E s.fr c = some (.bool t)) (h : AWp E N rd (if t then x else y) Q s) : AWp E N rd (.cond c x y) Q s := by
  intro K ro a w hr
  have := ev_sound hr.H hr.F hc
  simp only [VR] at this
  exact wpIn_cond this (h K ro a w hr)

theorem AWp.block {id : Nat} {c : Code} (h : AWp E N rd c (InBlock id Q) s) : AWp E N rd (.block id c) Q s := by
  intro K ro a w hr
  refine wpIn_block (wpIn_mono (h K ro a w hr) fun e a' w' q => ?_)
  obtain ⟨K', s', hx, hr', hq⟩ := q
  cases e with
  | exit i =>
    simp only [InBlock, Exit.inBlock] at hq ⊢
    split <;> rename_i hi
    · rw [if_pos hi] at hq; exact ⟨K', s', hx, hr', hq⟩
    · rw [if_neg hi] at hq; exact ⟨K', s', hx, hr', hq⟩
  | _ => exact ⟨K', s', hx, hr', hq⟩

theorem wpIn_loop_ix {F : Fence} {P : Program} {c : Code} {R : Exit → Act → World → Prop} {a : Act} {w : World} (I : Nat → Act → World → Prop) {n0 : Nat} (h0 : I n0 a w)
    (round : ∀ j a w, I j a w → c.wpIn F 0 P (Exit.then (fun a' w' => ∃ m, m < j ∧ I m a' w') R) a w) : (Code.loop c).wpIn F 0 P R a w := by
  have ex : ∀ a w, (∃ j, I j a w) → ∃ j, I j a w ∧ ∀ m, I m a w → j ≤ m := by
    rintro a w ⟨j, hj⟩
    induction j using Nat.strongRecOn with
    | _ j ih =>
      by_cases hm : ∃ m, m < j ∧ I m a w
      · obtain ⟨m, hm1, hm2⟩ := hm
        exact ih m hm1 hm2
      · exact ⟨j, hj, fun m hm' => Nat.le_of_not_lt fun hlt => hm ⟨m, hlt, hm'⟩⟩
  let μ : Act → World → Nat := fun a w => open Classical in if h : ∃ j, I j a w then (ex a w h).choose else 0
  have hμ : ∀ a w, (∃ j, I j a w) → I (μ a w) a w ∧ ∀ m, I m a w → μ a w ≤ m := by
    intro a w h
    have : μ a w = (ex a w h).choose := by simp [μ, h]
    rw [this]
    exact (ex a w h).choose_spec
  refine wpIn_loop (fun a w => ∃ j, I j a w) μ ⟨n0, h0⟩ fun a w hI => ?_
  obtain ⟨h1, h2⟩ := hμ a w hI
  refine wpIn_mono (round _ a w h1) fun e a' w' q => ?_
  cases e with
  | normal =>
    obtain ⟨m, hm, hI'⟩ := q
    exact ⟨⟨m, hI'⟩, Nat.lt_of_le_of_lt ((hμ a' w' ⟨m, hI'⟩).2 m hI') hm⟩
  | _ => exact q

theorem AWp.loop {c : Code} (I : Nat → St → Prop) {n0 : Nat} (h0 : I n0 s) (round : ∀ j s, I j s → AWp E N rd c (Then (fun s' => ∃ m, m < j ∧ I m s') Q) s) : AWp E N rd (.loop c) Q s := by
  intro K ro a w hr
  refine wpIn_loop_ix (fun j a w => ∃ K' s', Ext K K' ∧ SR E K' N rd ro s' a w ∧ I j s') ⟨K, s, Ext.refl K, hr, h0⟩ ?_
  rintro j a w ⟨K', s', hx, hr', hI⟩
  refine wpIn_mono (round j s' hI K' ro a w hr') fun e a' w' q => ?_
  obtain ⟨K2, s2, hx2, hr2, hq⟩ := q
  cases e with
  | normal =>
    obtain ⟨m, hm, hI'⟩ := hq
    exact ⟨m, hm, K2, s2, hx.trans hx2, hr2, hI'⟩
  | _ => exact ⟨K2, s2, hx.trans hx2, hr2, hq⟩

/-! ### Regions -/
def putd (N : Nat) (fr : Fr) : Option Tmp → AV → Option Fr
  | none, _ => some fr
  | some d, v => if d < N then some ((d, v) :: fr) else none

theorem putd_sound {K : Conc} {fr fr' : Fr} {a : Act} {d : Option Tmp} {v : AV} {cv : Value} (hF : FR K N fr a.tmps) (hv : VR K v cv) (h : putd N fr d v = some fr') : FR K N fr' (a.put d cv).tmps := by
  cases d with
  | none => simp only [putd] at h; cases h; exact hF
  | some d =>
    simp only [putd] at h
    split at h
    · rename_i hd; cases h; exact hF.put hd hv
    · cases h

/-- Does the operation run? -/
def gd (fr : Fr) (ops : Array Oper) (o : Oper) : Option Bool :=
  match o.guard with
  | none => some true
  | some (j, want) => match (ops[j]?).bind (·.dst) with
    | none => some false
    | some d => match lk fr d with
      | some (.bool b) => some (b == want)
      | some (.tup _) => some false
      | _ => none

theorem gd_sound {K : Conc} {fr : Fr} {a : Act} {ops : Array Oper} {o : Oper} {t : Bool} (hF : FR K N fr a.tmps) (h : gd fr ops o = some t) : Region.wanted o (yielded ops a.tmps) = t := by
  unfold gd at h
  unfold Region.wanted
  split at h
  · rename_i hg; cases h; rw [hg]
  · rename_i j want hg
    rw [hg]
    simp only [yielded]
    split at h
    · rename_i hd; cases h; rw [hd]; rfl
    · rename_i d hd
      rw [hd]
      simp only [Option.bind_some]
      split at h
      · rename_i b hb
        cases h
        have := hF.2 d _ hb
        simp only [VR] at this
        have hlt : d < a.tmps.size := by
          rcases Nat.lt_or_ge d a.tmps.size with h' | h'
          · exact h'
          · rw [Array.getD_eq_getD_getElem?, Array.getElem?_eq_none h'] at this
            simp [undef] at this
        have e : a.tmps[d]? = some (.bool b) := by
          rw [Array.getD_eq_getD_getElem?] at this
          simp [hlt] at this
          simp [hlt, this]
        rw [e]
        cases b <;> cases want <;> rfl
      · rename_i vs hb
        cases h
        have := hF.2 d _ hb
        simp only [VR] at this
        obtain ⟨us, h1, _⟩ := this
        cases he : a.tmps[d]? with
        | none => simp
        | some u =>
          rw [Array.getD_eq_getD_getElem?, he] at h1
          simp at h1
          subst h1
          simp
      · cases h

theorem AIx.nil {ops : Array Oper} (h : Q .normal s) : AIx E N rd ops [] Q s := fun K0 K ro a w hx hr => ⟨K, s, hx, hr, h⟩

theorem about_wide {F : Fence} (h : F.fn = fun _ => True) (x : Option FuncId) : ∀ f, x = some f → F.fn f := by intro f _; rw [h]; trivial

theorem AIx.op {ops : Array Oper} {i : Nat} {is : List Nat} {o : Oper} {v : AV} {H' : Heap} {fr' : Fr} (ho : ops[i]? = some o) (hg : gd s.fr ops o = some true) (hop : aop E s.fr s.H o.op o.type = some (v, H'))
    (hp : putd N s.fr o.dst v = some fr') (h : AIx E N rd ops is Q { s with fr := fr', H := H' }) : AIx E N rd ops (i :: is) Q s := by
  intro K0 K ro a w hx0 hr
  obtain ⟨hdef, K', cv, w', nx, x1, x2, x3, x4, x5⟩ := aop_sound hr.H hr.F hop
  have hF' := putd_sound (hr.F.ext x1) x5 hp
  have hnext : wpOpsIn (fence ro) 0 E.P ops (SPost E K0 N rd ro Q) is (a.put o.dst cv) w' :=
    h K0 K' ro _ w' (hx0.trans x1) ⟨x4, hF', by cases o.dst <;> exact hr.D.ext x1, hr.R.ext x1⟩
  simp only [wpOpsIn, ho, gd_sound hr.F hg, if_true]
  refine ⟨about_wide rfl _, ?_⟩
  rw [show (fence ro).round = ro from rfl, Oper.semAt_eq ro a.eval o hdef, x2]
  rcases x3 with rfl | ⟨rfl, rfl⟩
  · exact hnext
  · exact hnext

/-- An operation that its guard lets out. -/
theorem AIx.pass {ops : Array Oper} {i : Nat} {is : List Nat} {o : Oper} {fr' : Fr} (ho : ops[i]? = some o) (hg : gd s.fr ops o = some false)
    (hp : putd N s.fr o.dst (.tup []) = some fr') (h : AIx E N rd ops is Q { s with fr := fr' }) : AIx E N rd ops (i :: is) Q s := by
  intro K0 K ro a w hx0 hr
  simp only [wpOpsIn, ho, gd_sound hr.F hg, Bool.false_eq_true, if_false]
  refine ⟨about_wide rfl _, h K0 K ro _ w hx0 ⟨hr.H, putd_sound (v := .tup []) (cv := undef) hr.F (by simp only [VR]; exact ⟨#[], rfl, rfl⟩) hp, by cases o.dst <;> exact hr.D, hr.R⟩⟩

/-- A call of a Go function, named or as a value. -/
theorem AIx.call {ops : Array Oper} {i : Nat} {is : List Nat} {o : Oper} {f : Operand} {args : Array Operand} {ts : Array TypeId} {g : FuncId} {first cap xs : List AV} {fn : Func} (ho : ops[i]? = some o) (hg : gd s.fr ops o = some true)
    (hop : o.op = .call { callee := .value f, args := args, argTypes := ts }) (hf : ev E s.fr f = some (.fn (.func g) first cap)) (hxs : evs E s.fr args.toList = some xs)
    (hfn : E.P.funcs[g]? = some fn) (hbody : fn.body.isSome = true) (hname : (fn.name == "runtime.NumGoroutine") = false)
    (h : ACall E g (first ++ xs ++ cap) s.H fun v H' => ∃ fr', putd N s.fr o.dst v = some fr' ∧ AIx E N rd ops is Q { s with fr := fr', H := H' }) : AIx E N rd ops (i :: is) Q s := by
  intro K0 K ro a w hx0 hr
  simp only [wpOpsIn, ho, gd_sound hr.F hg, if_true]
  refine ⟨about_wide rfl _, ?_⟩
  have e1 := ev_sound hr.H hr.F hf
  simp only [VR] at e1
  obtain ⟨hy, fs, cs, e2, v1, v2⟩ := e1
  have e3 := evs_sound (K := K) hr.H hr.F hxs
  have hbn : ¬ fn.body = none := by intro hb; rw [hb] at hbody; cases hbody
  have hnn : ¬ fn.name = "runtime.NumGoroutine" := by simpa using hname
  have hrun : (execOp a.eval o).run E.P w = .ok (.enter g (fs ++ args.map a.eval ++ cs)) w := by
    simp [execOp, hop, resolve, e2, Deferred.ofValue, invoke, callFunc, hfn, hbn, hnn]
  rw [show (fence ro).round = ro from rfl, Oper.semAt_eq ro a.eval o (by intro c; rw [hop]; simp), hrun]
  refine ⟨fun hh => by simp [fence, Fence.wide] at hh, ?_⟩
  have hc := h K (fs.toList ++ args.toList.map a.eval ++ cs.toList) w hr.H ((v1.append e3).append v2)
  have hargs : (fs.toList ++ args.toList.map a.eval ++ cs.toList).toArray = fs ++ args.map a.eval ++ cs := by apply Array.ext'; simp
  rw [hargs] at hc
  have hc' : CallsIn (fence ro) 0 E.P g (fs ++ args.map a.eval ++ cs) w fun e w' => ∃ v cv K' H', e = .returned cv ∧ Ext K K' ∧ HR E K' H' w' ∧ VR K' v cv ∧ ∃ fr', putd N s.fr o.dst v = some fr' ∧ AIx E N rd ops is Q { s with fr := fr', H := H' } := by
    cases ro with
    | none => exact hc
    | some l => exact hc
  refine hc'.mono fun e w' ⟨v, cv, K', H', he, hx, hH, hv, fr', hp, hq⟩ => ?_
  subst he
  exact hq K0 K' ro _ w' (hx0.trans hx) ⟨hH, putd_sound (hr.F.ext hx) hv hp, by cases o.dst <;> exact hr.D.ext hx, hr.R.ext hx⟩

/-- A call of a loop's own yield. -/
theorem AIx.yield {ops : Array Oper} {i : Nat} {is : List Nat} {o : Oper} {f : Operand} {args : Array Operand} {ts : Array TypeId} {b : Nat} {xs : List AV} (ho : ops[i]? = some o) (hg : gd s.fr ops o = some true)
    (hop : o.op = .call { callee := .value f, args := args, argTypes := ts }) (hf : ev E s.fr f = some (.yld b)) (hxs : evs E s.fr args.toList = some xs)
    (h : ARound E b xs s.H fun v H' => ∃ fr', putd N s.fr o.dst v = some fr' ∧ AIx E N rd ops is Q { s with fr := fr', H := H' }) : AIx E N rd ops (i :: is) Q s := by
  intro K0 K ro a w hx0 hr
  simp only [wpOpsIn, ho, gd_sound hr.F hg, if_true]
  refine ⟨about_wide rfl _, ?_⟩
  have e1 := ev_sound hr.H hr.F hf
  simp only [VR] at e1
  obtain ⟨_, j, hj, e2⟩ := e1
  have e3 := evs_sound (K := K) hr.H hr.F hxs
  obtain ⟨j', l, fn, tmps, asg, body, y1, y2, y3, y4⟩ := h K (args.toList.map a.eval) w hr.H e3
  have : j' = j := Option.some.inj (y1.symm.trans hj)
  subst this
  have e4 := e2 y2
  have hargs : (args.toList.map a.eval).toArray = args.map a.eval := by apply Array.ext'; simp
  rw [hargs] at y3
  have hrun : (execOp a.eval o).run E.P w = .ok (.round l fn tmps asg body) w := by
    simp [execOp, hop, resolve, e4, Deferred.ofValue, invoke, y3]
  rw [show (fence ro).round = ro from rfl, Oper.semAt_eq ro a.eval o (by intro c; rw [hop]; simp), hrun]
  refine ⟨fun hh => by simp [fence, Fence.wide] at hh, ?_⟩
  have y4' : RoundIn (fence ro) 0 E.P l fn tmps asg body w fun e w' => ∃ v cv K' H', e = .returned cv ∧ Ext K K' ∧ HR E K' H' w' ∧ VR K' v cv ∧ ∃ fr', putd N s.fr o.dst v = some fr' ∧ AIx E N rd ops is Q { s with fr := fr', H := H' } := y4
  refine y4'.mono fun e w' ⟨v, cv, K', H', he, hx, hH, hv, fr', hp, hq⟩ => ?_
  subst he
  exact hq K0 K' ro _ w' (hx0.trans hx) ⟨hH, putd_sound (hr.F.ext hx) hv hp, by cases o.dst <;> exact hr.D.ext hx, hr.R.ext hx⟩

theorem AWp.region {id : Nat} {ops : Array Oper} (h : AIx E N rd ops (List.range ops.size) Q s) : AWp E N rd (.region id ops false) Q s :=
  fun K ro a w hr => wpIn_region (h K K ro a w (Ext.refl K) hr)

/-! ### Functions -/
def mkFr : Nat → List AV → Fr
  | _, [] => []
  | k, a :: as => (k, a) :: mkFr (k + 1) as

theorem lk_mkFr : ∀ {as : List AV} {k n : Nat} {v : AV}, lk (mkFr k as) n = some v → k ≤ n ∧ as[n - k]? = some v
  | [], k, n, v, h => by simp [mkFr, lk] at h
  | a :: as, k, n, v, h => by
    simp only [mkFr, lk] at h
    split at h
    · rename_i hk
      cases h
      subst hk
      simp
    · rename_i hk
      obtain ⟨h1, h2⟩ := lk_mkFr h
      refine ⟨by omega, ?_⟩
      rw [show n - k = (n - (k + 1)) + 1 by omega]
      simpa using h2

theorem FR.args {K : Conc} {args : List AV} {cargs : List Value} {N : Nat} (h : VRL K args cargs) (hn : args.length ≤ N) : FR K N (mkFr 0 args) (cargs.toArray ++ Array.replicate (N - cargs.toArray.size) undef) := by
  have hl := h.length
  refine ⟨by simp; omega, fun k v e => ?_⟩
  obtain ⟨_, h2⟩ := lk_mkFr e
  simp at h2
  obtain ⟨u, h3, h4⟩ := h.get k v h2
  have hlt : k < cargs.length := (List.getElem?_eq_some_iff.1 h3).1
  rw [Array.getD_eq_getD_getElem?, Array.getElem?_append_left (by simpa using hlt)]
  simp [h3]
  exact h4

def gone : List Nat → Heap → Option Heap
  | [], H => some H
  | d :: ds, H => match H[d]? with
    | some .dfr => gone ds (H.set d .gone)
    | _ => none

theorem run_takeDeferred {P : Program} {w : World} {c : Nat} (h : w.heap[c]? = some (.deferred (some []))) : (Instr.takeDeferred c).run P w = .ok [] { w with heap := w.heap.setIfInBounds c (.deferred none) } := by
  simp [Instr.takeDeferred, getObj, setObj, Sem.run, h]

/-- One result variable. -/
def ares1 (E : Env) (fr : Fr) (H : Heap) : ResultVar → Option AV
  | .tmp t => lk fr t
  | .cell a t => match lk fr a with
    | some p => match cellsAt H p with
      | some _ => aload E H t p
      | none => none
    | none => none
def aresL (E : Env) (fr : Fr) (H : Heap) : List ResultVar → Option (List AV)
  | [] => some []
  | r :: rs => match ares1 E fr H r, aresL E fr H rs with
    | some v, some vs => some (v :: vs)
    | _, _ => none
def ares (E : Env) (fr : Fr) (H : Heap) (rs : List ResultVar) : Option AV := match aresL E fr H rs with
  | some [v] => some v
  | some vs => some (.tup vs)
  | none => none

def resOne (t : Array Value) (r : ResultVar) : Sem Value := match r with
  | .tmp x => pure (t.getD x undef)
  | .cell a x => do loadVar x (← asAddr (t.getD a undef))

theorem results_eq (fn : Func) (t : Array Value) : results fn t = (do
    let vs ← fn.results.mapM (resOne t)
    pure (if h : vs.size = 1 then vs[0] else .tuple vs)) := by
  unfold results
  congr 1

theorem ares1_sound {K : Conc} {fr : Fr} {H : Heap} {t : Array Value} {w : World} (hH : HR E K H w) (hF : FR K N fr t) {r : ResultVar} {v : AV} (h : ares1 E fr H r = some v) : QOK E K w (resOne t r) v := by
  cases r with
  | tmp x => exact ⟨_, rfl, hF.2 x v h⟩
  | cell a x =>
    simp only [ares1] at h
    split at h
    · rename_i p hp
      split at h
      · rename_i cs hc
        have hr := hF.2 a p hp
        obtain ⟨b, o, us, e1, _⟩ := cellsAt_spec hH hr hc
        obtain ⟨cv, h1, h2⟩ := aload_sound hH hr h
        refine ⟨cv, ?_, h2⟩
        rw [e1] at h1
        simp only [resOne, e1]
        simpa [Instr.loadAt, Instr.sureAddr, asAddr] using h1
      · cases h
    · cases h

theorem aresL_sound {K : Conc} {fr : Fr} {H : Heap} {t : Array Value} {w : World} (hH : HR E K H w) (hF : FR K N fr t) : ∀ {rs : List ResultVar} {vs : List AV}, aresL E fr H rs = some vs →
    ∃ cvs, (rs.mapM (resOne t)).run E.P w = Result.ok cvs w ∧ VRL K vs cvs
  | [], vs, h => by simp only [aresL] at h; cases h; exact ⟨[], rfl, rfl⟩
  | r :: rs, vs, h => by
    simp only [aresL] at h
    split at h
    · rename_i v vs' h1 h2
      cases h
      obtain ⟨cv, g1, g2⟩ := ares1_sound hH hF h1
      obtain ⟨cvs, g3, g4⟩ := aresL_sound hH hF h2
      refine ⟨cv :: cvs, ?_, cv, cvs, rfl, g2, g4⟩
      simp only [List.mapM_cons, Sem.run_bind, g1, Result.andThen_ok, g3, Sem.run_pure]
    · cases h

theorem ares_sound {K : Conc} {fr : Fr} {H : Heap} {t : Array Value} {w : World} {fn : Func} (hH : HR E K H w) (hF : FR K N fr t) {v : AV} (h : ares E fr H fn.results.toList = some v) :
    ∃ cv, (results fn t).run E.P w = .ok cv w ∧ VR K v cv := by
  unfold ares at h
  have e : fn.results = fn.results.toList.toArray := by simp
  have key : ∀ cvs, (fn.results.toList.mapM (resOne t)).run E.P w = Result.ok cvs w → (results fn t).run E.P w = .ok (if h : cvs.toArray.size = 1 then cvs.toArray[0] else .tuple cvs.toArray) w := by
    intro cvs g1
    rw [results_eq, e, List.mapM_toArray]
    simp only [Sem.run_bind, Sem.run_map, g1, Result.andThen_ok, Sem.run_pure]
  split at h
  · rename_i u hu
    cases h
    obtain ⟨cvs, g1, g2⟩ := aresL_sound hH hF hu
    simp only [VRL] at g2
    obtain ⟨x, xs, e1, g3, e2⟩ := g2
    subst e2 e1
    exact ⟨x, by rw [key _ g1]; simp, g3⟩
  · rename_i vs hn hu
    cases h
    obtain ⟨cvs, g1, g2⟩ := aresL_sound hH hF hu
    have hl := g2.length
    refine ⟨.tuple cvs.toArray, ?_, _, rfl, by simpa using g2⟩
    have h1 : ¬ cvs.length = 1 := by
      intro h1
      rw [← hl] at h1
      obtain ⟨u, rfl⟩ := List.length_eq_one_iff.1 h1
      exact hn u rfl
    rw [key _ g1]
    simp [h1]
  · cases h

/-- What the end of a function's body owes. -/
def RetPost (E : Env) (fn : Func) (Q : AV → Heap → Prop) : Exit → St → Prop
  | .normal, s | .ret, s => ∃ H2 v, gone s.df s.H = some H2 ∧ ares E s.fr H2 fn.results.toList = some v ∧ Q v H2
  | _, _ => False

theorem leaves_of {K : Conc} {fn : Func} {t : Array Value} {R : AV → Heap → Prop} {fr : Fr} {v : AV} : ∀ {df : List Nat} {ds : List Deferred} {H H2 : Heap} {K1 : Conc} {w : World}, Ext K K1 → HR E K1 H w → FR K1 N fr t → DR K1 df ds →
    gone df H = some H2 → ares E fr H2 fn.results.toList = some v → R v H2 →
    LeavesInM Fence.wide 0 E.P fn t (fun e w' => ∃ v cv K' H', e = .returned cv ∧ Ext K K' ∧ HR E K' H' w' ∧ VR K' v cv ∧ R v H') ds .returning w
  | [], ds, H, H2, K1, w, hx, hH, hF, hD, hg, ha, hR => by
    simp only [DR] at hD
    subst hD
    simp only [gone] at hg
    cases hg
    obtain ⟨cv, h1, h2⟩ := ares_sound (fn := fn) hH hF ha
    exact ⟨cv, h1, v, cv, K1, H, rfl, hx, hH, h2, hR⟩
  | d :: df, ds, H, H2, K1, w, hx, hH, hF, hD, hg, ha, hR => by
    obtain ⟨x, r, rfl, ⟨i, hi, hxi⟩, hD⟩ := hD
    simp only [gone] at hg
    split at hg
    · rename_i hd
      have ho := hH.obj d _ i hd hi
      have hxi := hxi ho.1
      subst hxi
      have htake := run_takeDeferred (P := E.P) ho.2
      have hx' := Conc.ext_upd (K := K1) hi (Nat.le_refl _) (fun _ => rfl)
      have hg2 : w.grownBy { w with heap := w.heap.setIfInBounds i.c (.deferred none) } (some i.c) := by
        refine ⟨rfl, rfl, rfl, by simp, fun k hk hne => ?_⟩
        have : i.c ≠ k := fun h => hne (by rw [h])
        simp [Array.getElem?_setIfInBounds_ne this]
      have hH' := hH.upd (o := .gone) hd rfl hi (Nat.le_refl _) (fun _ => rfl) (.inl rfl) hg2 (by have := ho.at_; simp only [OR]; simpa using this)
      refine ⟨by simp, .inl ⟨i.c, _, rfl, htake, ?_⟩⟩
      exact leaves_of (hx.trans hx') hH' (hF.ext hx') (hD.ext hx') hg ha hR
    · cases hg

theorem ACall.of_body {f : FuncId} {fn : Func} {c : Code} {args : List AV} {H : Heap} {R : AV → Heap → Prop} (hf : E.P.funcs[f]? = some fn) (hb : fn.body = some c) (hn : args.length ≤ fn.ntmps)
    (h : AWp E fn.ntmps none c (RetPost E fn R) ⟨mkFr 0 args, H, []⟩) : ACall E f args H R := by
  intro K cargs w hH hv
  refine callsIn_of_wp_marks hf hb trivial ?_
  have h0 : SR E K fn.ntmps none none ⟨mkFr 0 args, H, []⟩ { tmps := cargs.toArray ++ Array.replicate (fn.ntmps - cargs.toArray.size) undef, defers := [] } w :=
    ⟨hH, FR.args hv hn, rfl, rfl⟩
  refine wpIn_mono (h K none _ w h0) fun e a' w' q => ?_
  obtain ⟨K', s, hx, hr, hq⟩ := q
  cases e with
  | normal =>
    obtain ⟨H2, v, h1, h2, h3⟩ := hq
    exact leaves_of hx hr.H hr.F hr.D h1 h2 h3
  | ret =>
    obtain ⟨H2, v, h1, h2, h3⟩ := hq
    exact leaves_of hx hr.H hr.F hr.D h1 h2 h3
  | _ => exact hq.elim

end

end Go.Proofs.Ytoijfbdjlagooaa

/- The logic over abstract states: a range over a function. -/
namespace Go.Proofs.Ytoijfbdjlagooaa
open Go Go.RowKit
set_option linter.unusedVariables false
set_option linter.unusedSimpArgs false

section
variable {E : Env} {N : Nat} {rd : Option Nat} {Q Q' : Exit → St → Prop} {s : St} {K : Conc} {H : Heap} {w : World}

theorem grownBy_setObj (w : World) (c : Nat) (o : Obj) : w.grownBy { w with heap := w.heap.setIfInBounds c o } (some c) := by
  refine ⟨rfl, rfl, rfl, by simp, fun k hk hne => ?_⟩
  have : c ≠ k := fun h => hne (by rw [h])
  simp [Array.getElem?_setIfInBounds_ne this]

theorem HR.setObj (hH : HR E K H w) {b : Nat} {ob : AObj} (h0 : H[b]? = some ob) (hk : ob.kept = true) {i : BI} (hb : K.blk[b]? = some i) {o : AObj} {o' : Obj} (ho : OR (K.upd b i) o i { w with heap := w.heap.setIfInBounds i.c o' }) :
    Ext K (K.upd b i) ∧ HR E (K.upd b i) (H.set b o) { w with heap := w.heap.setIfInBounds i.c o' } :=
  ⟨Conc.ext_upd hb (Nat.le_refl _) (fun _ => rfl), hH.upd h0 hk hb (Nat.le_refl _) (fun _ => rfl) (.inl rfl) (grownBy_setObj w i.c o') ho⟩

theorem HR.pushObj (hH : HR E K H w) {o : AObj} {o' : Obj} (ho : OR (K.push ⟨w.heap.size, 0, 0⟩) o ⟨w.heap.size, 0, 0⟩ (w.alloc o')) :
    Ext K (K.push ⟨w.heap.size, 0, 0⟩) ∧ HR E (K.push ⟨w.heap.size, 0, 0⟩) (H ++ [o]) (w.alloc o') ∧ (K.push ⟨w.heap.size, 0, 0⟩).blk[H.length]? = some ⟨w.heap.size, 0, 0⟩ :=
  ⟨Conc.ext_push K _, hH.push (Nat.le_refl _) (World.grownBy_alloc w _ none) ho, by rw [← hH.len]; simp [Conc.push]⟩

/-- What a range over a function owes once the function has been called: the loop's record is not busy; the jump that waits is made. -/
def LoopEnd (E : Env) (N : Nat) (rd : Option Nat) (b : Nat) (Q : Exit → St → Prop) (fr : Fr) (df : List Nat) (H2 : Heap) : Prop :=
  ∃ st pend fr' n ps asg body d, H2[b]? = some (.loop st pend fr' n ps asg body d) ∧ st ≠ .busy ∧
    (match pend with
    | none => Q .normal ⟨fr, H2.set b .gone, df⟩
    | some c => AWp E N rd c Q ⟨fr, H2.set b .gone, df⟩)

theorem run_endLoop {P : Program} {c : Nat} {r : Loop} (h : w.heap[c]? = some (.loop r)) (hs : r.state ≠ .busy) :
    (Instr.endLoop c).run P w = .ok r.pending { w with heap := w.heap.setIfInBounds c (.loop { r with state := .exhausted }) } := by
  simp [Instr.endLoop, Instr.getLoop, getObj, setObj, Sem.run, h, hs]

theorem rangePost_of {ro : Option Nat} {b : Nat} {i : BI} {a : Act} {l : Nat} (hb : K.blk[b]? = some i) (hv : i.ver = 0) (hl : l = i.c) {R : AV → Heap → Prop} {df : List Nat} {K0 : Conc} (hx0 : Ext K0 K)
    (hF : FR K N s.fr a.tmps) (hD : DR K df a.defers) (hR : RR K rd ro) (hr : ∀ v H2, R v H2 → LoopEnd E N rd b Q s.fr df H2)
    {e : Ending} {w' : World} (h : ∃ v cv K' H', e = .returned cv ∧ Ext K K' ∧ HR E K' H' w' ∧ VR K' v cv ∧ R v H') : rangePost (fence ro) 0 E.P l (SPost E K0 N rd ro Q) a e w' := by
  obtain ⟨v, cv, K', H', rfl, hx, hH, _, hR'⟩ := h
  obtain ⟨st, pend, fr', n, ps, asg, body, d, hb', hst, hq⟩ := hr v H' hR'
  obtain ⟨i', hi', ho⟩ := hH.info hb'
  obtain ⟨j, e1, l1, s1⟩ := hx.blk b i hb
  have : j = i' := Option.some.inj (e1.symm.trans hi')
  subst this
  have hver : j.ver = 0 := ho.1
  have : j = i := s1 (by omega)
  subst this
  obtain ⟨_, f, tmps, dc, hh, _⟩ := ho
  subst hl
  have hend := run_endLoop (P := E.P) hh hst
  refine ⟨_, _, hend, ?_⟩
  obtain ⟨x1, x2⟩ := hH.setObj (o := .gone) (o' := .loop { state := .exhausted, pending := pend, fn := f, tmps := tmps, params := ps, assign := asg, body := body, defers := dc }) hb' rfl hi' (by
    simp only [OR]
    have := (Array.getElem?_eq_some_iff.1 hh).1
    simpa using this)
  have hsr : SR E (K'.upd b j) N rd ro ⟨s.fr, H'.set b .gone, df⟩ a { w' with heap := w'.heap.setIfInBounds j.c (.loop { state := .exhausted, pending := pend, fn := f, tmps := tmps, params := ps, assign := asg, body := body, defers := dc }) } :=
    ⟨x2, (hF.ext hx).ext x1, (hD.ext hx).ext x1, (hR.ext hx).ext x1⟩
  cases pend with
  | none => exact ⟨_, _, (hx0.trans hx).trans x1, hsr, hq⟩
  | some c => exact hq.of_post ((hx0.trans hx).trans x1) hsr

theorem run_invoke {P : Program} {f : FuncId} {fn : Func} (hfn : P.funcs[f]? = some fn) (hbody : fn.body.isSome = true) (hname : (fn.name == "runtime.NumGoroutine") = false) (cs args : Array Value) (w : World) :
    (invoke (.fn (.func f) cs) args).run P w = .ok (.enter f (args ++ cs)) w := by
  have hbn : ¬ fn.body = none := by intro hb; rw [hb] at hbody; cases hbody
  have hnn : ¬ fn.name = "runtime.NumGoroutine" := by simpa using hname
  simp [invoke, callFunc, hfn, hbn, hnn]

/-- An outermost loop. -/
theorem AWp.rangeFunc {g : Operand} {ps : Array Tmp} {asg body : Code} {f : FuncId} {fn : Func} {first cap : List AV} (hg : ev E s.fr g = some (.fn (.func f) first cap))
    (hfn : E.P.funcs[f]? = some fn) (hbody : fn.body.isSome = true) (hname : (fn.name == "runtime.NumGoroutine") = false)
    (h : ACall E f (first ++ [.yld (s.H.length + 1)] ++ cap) (s.H ++ [.dfr, .loop .ready none s.fr N ps asg body s.H.length]) fun _ H2 => LoopEnd E N none (s.H.length + 1) Q s.fr (s.H.length :: s.df) H2) :
    AWp E N none (.rangeFunc g ps asg body) Q s := by
  intro K ro a w hr
  have hro : ro = none := hr.R
  subst hro
  refine wpIn_rangeFunc fun fnid _ => ?_
  have e1 := ev_sound hr.H hr.F hg
  simp only [VR] at e1
  obtain ⟨hy, fs, cs, e2, v1, v2⟩ := e1
  have hbn : ¬ fn.body = none := by intro hb; rw [hb] at hbody; cases hbody
  have hnn : ¬ fn.name = "runtime.NumGoroutine" := by simpa using hname
  obtain ⟨x1, x2, x3⟩ := hr.H.pushObj (o := .dfr) (o' := .deferred (some [])) ⟨rfl, heap_alloc_new w _⟩
  have x4 := (Conc.ext_push (K.push ⟨w.heap.size, 0, 0⟩) ⟨w.heap.size + 1, 0, 0⟩)
  have hOR : OR ((K.push ⟨w.heap.size, 0, 0⟩).push ⟨(w.alloc (.deferred (some []))).heap.size, 0, 0⟩) (.loop .ready none s.fr N ps asg body s.H.length) ⟨(w.alloc (.deferred (some []))).heap.size, 0, 0⟩
      ((w.alloc (.deferred (some []))).alloc (.loop { state := .ready, pending := none, fn := fnid, tmps := a.tmps, params := ps, assign := asg, body := body, defers := w.heap.size })) := by
    refine ⟨rfl, fnid, a.tmps, w.heap.size, heap_alloc_new _ _, (hr.F.ext x1).ext (Conc.ext_push _ _), ⟨w.heap.size, 0, 0⟩, ?_, fun _ => rfl⟩
    have : (K.push ⟨w.heap.size, 0, 0⟩).blk[s.H.length]? = some ⟨w.heap.size, 0, 0⟩ := x3
    show (_ ++ _)[s.H.length]? = _
    rw [List.getElem?_append_left (List.getElem?_eq_some_iff.1 this).1]
    exact this
  obtain ⟨y1, y2, y3⟩ := x2.pushObj hOR
  have hx := x1.trans y1
  have hlen : (s.H ++ [AObj.dfr]).length = s.H.length + 1 := by simp
  rw [hlen] at y3
  have hyl : VRL ((K.push ⟨w.heap.size, 0, 0⟩).push ⟨(w.alloc (.deferred (some []))).heap.size, 0, 0⟩) [.yld (s.H.length + 1)] [.func (.yield (w.heap.size + 1)) #[] #[]] := by
    simp only [VRL, VR]
    exact ⟨_, [], rfl, ⟨rfl, _, y3, fun _ => by simp⟩, rfl⟩
  have hcall := h _ (fs.toList ++ [.func (.yield (w.heap.size + 1)) #[] #[]] ++ cs.toList) _ (by simpa using y2) (((VRL.ext hx _ _ v1).append hyl).append (VRL.ext hx _ _ v2))
  have hargs : (fs.toList ++ [Value.func (.yield (w.heap.size + 1)) #[] #[]] ++ cs.toList).toArray = fs ++ #[Value.func (.yield (w.heap.size + 1)) #[] #[]] ++ cs := by apply Array.ext'; simp
  rw [hargs] at hcall
  have r1 : (Instr.enterLoop fnid a.tmps ps asg body (fence none).round).run E.P w = .ok (w.heap.size + 1, [{ target := .collected w.heap.size, args := #[] }])
      ((w.alloc (.deferred (some []))).alloc (.loop { state := .ready, pending := none, fn := fnid, tmps := a.tmps, params := ps, assign := asg, body := body, defers := w.heap.size })) := by
    simp [Instr.enterLoop, fence]
  have r2 : (resolve a.eval (rangeCall g (w.heap.size + 1)) 0).run E.P ((w.alloc (.deferred (some []))).alloc (.loop { state := .ready, pending := none, fn := fnid, tmps := a.tmps, params := ps, assign := asg, body := body, defers := w.heap.size })) =
      .ok { target := .fn (.func f) cs, args := fs ++ #[.func (.yield (w.heap.size + 1)) #[] #[]] } ((w.alloc (.deferred (some []))).alloc (.loop { state := .ready, pending := none, fn := fnid, tmps := a.tmps, params := ps, assign := asg, body := body, defers := w.heap.size })) := by
    have : a.eval (.const (.func (.yield (w.heap.size + 1)) #[] #[])) = .func (.yield (w.heap.size + 1)) #[] #[] := rfl
    simp [resolve, e2, Deferred.ofValue, this]
  refine ⟨_, _, _, _, _, f, fs ++ #[.func (.yield (w.heap.size + 1)) #[] #[]] ++ cs, _, r1, r2, fun f' _ => trivial, run_invoke hfn hbody hname _ _ _, fun hh => by simp [fence, Fence.wide] at hh, ?_⟩
  refine CallsIn.mono hcall fun e w' q => ?_
  refine rangePost_of (a := { tmps := a.tmps, defers := [{ target := .collected w.heap.size, args := #[] }] ++ a.defers }) (b := s.H.length + 1) y3 rfl (by simp) hx (hr.F.ext hx) ?_ (hr.R.ext hx) (fun v H2 q => q) q
  refine ⟨_, a.defers, rfl, ?_, hr.D.ext hx⟩
  obtain ⟨i', e', l', s'⟩ := y1.blk s.H.length _ x3
  refine ⟨i', e', fun hv => ?_⟩
  have := s' (by simpa using hv)
  subst this
  rfl

/-- A loop in the round of another. -/
theorem AWp.rangeFuncIn {b0 : Nat} {g : Operand} {ps : Array Tmp} {asg body : Code} {f : FuncId} {fn : Func} {first cap : List AV} (hg : ev E s.fr g = some (.fn (.func f) first cap))
    (hfn : E.P.funcs[f]? = some fn) (hbody : fn.body.isSome = true) (hname : (fn.name == "runtime.NumGoroutine") = false) {st : LoopState} {pend : Option Code} {fr' : Fr} {n : Nat} {ps' : Array Tmp} {asg' body' : Code} {d : Nat}
    (hb0 : s.H[b0]? = some (.loop st pend fr' n ps' asg' body' d))
    (h : ACall E f (first ++ [.yld s.H.length] ++ cap) (s.H ++ [.loop .ready none s.fr N ps asg body d]) fun _ H2 => LoopEnd E N (some b0) s.H.length Q s.fr s.df H2) :
    AWp E N (some b0) (.rangeFunc g ps asg body) Q s := by
  intro K ro a w hr
  obtain ⟨i0, hi0, hro, hrs⟩ := hr.R
  obtain ⟨j0, hj0, ho0⟩ := hr.H.info hb0
  have : j0 = i0 := Option.some.inj (hj0.symm.trans hi0)
  subst this
  have hro := hro ho0.1
  subst hro
  obtain ⟨hv0, f0, tmps0, dc0, hh0, hF0, jd, hjd, hdc⟩ := ho0
  refine wpIn_rangeFunc fun fnid _ => ?_
  have e1 := ev_sound hr.H hr.F hg
  simp only [VR] at e1
  obtain ⟨hy, fs, cs, e2, v1, v2⟩ := e1
  have hOR : OR (K.push ⟨w.heap.size, 0, 0⟩) (.loop .ready none s.fr N ps asg body d) ⟨w.heap.size, 0, 0⟩
      (w.alloc (.loop { state := .ready, pending := none, fn := fnid, tmps := a.tmps, params := ps, assign := asg, body := body, defers := dc0 })) := by
    refine ⟨rfl, fnid, a.tmps, dc0, heap_alloc_new _ _, hr.F.ext (Conc.ext_push _ _), jd, ?_, hdc⟩
    show (_ ++ _)[d]? = _
    rw [List.getElem?_append_left (List.getElem?_eq_some_iff.1 hjd).1]
    exact hjd
  obtain ⟨hx, y2, y3⟩ := hr.H.pushObj hOR
  have hyl : VRL (K.push ⟨w.heap.size, 0, 0⟩) [.yld s.H.length] [.func (.yield w.heap.size) #[] #[]] := by
    simp only [VRL, VR]
    exact ⟨_, [], rfl, ⟨rfl, _, y3, fun _ => rfl⟩, rfl⟩
  have hcall := h _ (fs.toList ++ [.func (.yield w.heap.size) #[] #[]] ++ cs.toList) _ y2 (((VRL.ext hx _ _ v1).append hyl).append (VRL.ext hx _ _ v2))
  have hargs : (fs.toList ++ [Value.func (.yield w.heap.size) #[] #[]] ++ cs.toList).toArray = fs ++ #[Value.func (.yield w.heap.size) #[] #[]] ++ cs := by apply Array.ext'; simp
  rw [hargs] at hcall
  have r1 : (Instr.enterLoop fnid a.tmps ps asg body (fence (some j0.c)).round).run E.P w = .ok (w.heap.size, [])
      (w.alloc (.loop { state := .ready, pending := none, fn := fnid, tmps := a.tmps, params := ps, assign := asg, body := body, defers := dc0 })) := by
    simp [Instr.enterLoop, fence, Instr.getLoop, getObj, Sem.run, hh0]
  have r2 : (resolve a.eval (rangeCall g w.heap.size) 0).run E.P (w.alloc (.loop { state := .ready, pending := none, fn := fnid, tmps := a.tmps, params := ps, assign := asg, body := body, defers := dc0 })) =
      .ok { target := .fn (.func f) cs, args := fs ++ #[.func (.yield w.heap.size) #[] #[]] } (w.alloc (.loop { state := .ready, pending := none, fn := fnid, tmps := a.tmps, params := ps, assign := asg, body := body, defers := dc0 })) := by
    have : a.eval (.const (.func (.yield w.heap.size) #[] #[])) = .func (.yield w.heap.size) #[] #[] := rfl
    simp [resolve, e2, Deferred.ofValue, this]
  refine ⟨_, _, _, _, _, f, fs ++ #[.func (.yield w.heap.size) #[] #[]] ++ cs, _, r1, r2, fun f' _ => trivial, run_invoke hfn hbody hname _ _ _, fun hh => by simp [fence, Fence.wide] at hh, ?_⟩
  refine CallsIn.mono (show CallsIn (fence (some j0.c)) 0 E.P f _ _ _ from hcall) fun e w' q => ?_
  exact rangePost_of (a := { tmps := a.tmps, defers := [] ++ a.defers }) (b := s.H.length) y3 rfl rfl hx (hr.F.ext hx) (hr.D.ext hx) (hr.R.ext hx) (fun v H2 q => q) q

/-! ### A round -/
def putArgs (N : Nat) : List (Tmp × AV) → Fr → Option Fr
  | [], fr => some fr
  | (t, a) :: r, fr => if t < N then putArgs N r ((t, a) :: fr) else none

theorem putArgs_sound : ∀ {ps : List Tmp} {args : List AV} {cargs : List Value} {fr fr' : Fr} {t : Array Value}, FR K N fr t → VRL K args cargs → putArgs N (ps.zip args) fr = some fr' →
    FR K N fr' ((ps.zip cargs).foldl (fun tmps (p : Tmp × Value) => tmps.setIfInBounds p.1 p.2) t)
  | [], args, cargs, fr, fr', t, hF, hv, h => by simp [putArgs] at h; subst h; simpa using hF
  | p :: ps, [], cargs, fr, fr', t, hF, hv, h => by
    simp only [VRL] at hv
    subst hv
    simp [putArgs] at h
    subst h
    simpa using hF
  | p :: ps, a :: args, cargs, fr, fr', t, hF, hv, h => by
    simp only [VRL] at hv
    obtain ⟨u, us, rfl, h1, h2⟩ := hv
    simp only [List.zip_cons_cons, putArgs] at h
    split at h
    · rename_i hp
      simp only [List.zip_cons_cons, List.foldl_cons]
      exact putArgs_sound (hF.put hp h1) h2 h
    · cases h

/-- What the end of a round's body owes. -/
def RoundPost (b : Nat) (R : AV → Heap → Prop) (e : Exit) (s : St) : Prop :=
  ∃ st pend fr n ps asg body d, s.H[b]? = some (.loop st pend fr n ps asg body d) ∧
    match e with
    | .normal => R (.bool true) (s.H.set b (.loop .ready none fr n ps asg body d))
    | .ret => R (.bool false) (s.H.set b (.loop .done (some .ret) fr n ps asg body d))
    | .exit i => R (.bool false) (s.H.set b (.loop .done (some (.exit i)) fr n ps asg body d))
    | _ => False

theorem run_setLoop {P : Program} {c : Nat} {r : Loop} (h : w.heap[c]? = some (.loop r)) (jump : Option Code) :
    (Instr.endRound c jump).run P w = .ok (.bool jump.isNone) { w with heap := w.heap.setIfInBounds c (.loop { r with state := if jump.isNone then .ready else .done, pending := jump }) } := by
  simp [Instr.endRound, Instr.getLoop, getObj, setObj, Sem.run, h]

theorem OR.loop_set {b : Nat} {i : BI} (hb : K.blk[b]? = some i) {st : LoopState} {pend : Option Code} {fr : Fr} {n : Nat} {ps : Array Tmp} {asg body : Code} {d : Nat} {f : FuncId} {tmps : Array Value} {dc : Nat} (hv : i.ver = 0)
    (hlt : i.c < w.heap.size) (hF : FR K n fr tmps) (hd : ∃ j, K.blk[d]? = some j ∧ (j.ver = 0 → dc = j.c)) :
    OR (K.upd b i) (.loop st pend fr n ps asg body d) i { w with heap := w.heap.setIfInBounds i.c (.loop { state := st, pending := pend, fn := f, tmps := tmps, params := ps, assign := asg, body := body, defers := dc }) } := by
  have hx := Conc.ext_upd (K := K) hb (Nat.le_refl _) (fun _ => rfl)
  obtain ⟨j, h1, h2⟩ := hd
  obtain ⟨j', e', l', s'⟩ := hx.blk d j h1
  refine ⟨hv, f, tmps, dc, by simp [hlt], hF.ext hx, j', e', fun hv' => ?_⟩
  have := s' (by omega)
  subst this
  exact h2 hv'

theorem ARound.of_body {b : Nat} {args : List AV} {R : AV → Heap → Prop} {pend : Option Code} {fr fr' : Fr} {ps : Array Tmp} {asg body : Code} {d : Nat} (hb : H[b]? = some (.loop .ready pend fr N ps asg body d)) (hl : args.length = ps.size)
    (hp : putArgs N (ps.toList.zip args) fr = some fr')
    (h : AWp E N (some b) asg (Then (fun s1 => ∃ pend1 fr1 n1 ps1 asg1 body1 d1, s1.H[b]? = some (.loop .ready pend1 fr1 n1 ps1 asg1 body1 d1) ∧
      AWp E N (some b) body (RoundPost b R) { s1 with H := s1.H.set b (.loop .busy pend1 fr1 n1 ps1 asg1 body1 d1) }) (fun _ _ => False)) ⟨fr', H, []⟩) : ARound E b args H R := by
  intro K cargs w hH hv
  obtain ⟨i, hi, ho⟩ := hH.info hb
  obtain ⟨hver, f, tmps, dc, hh, hF, hd⟩ := ho
  have hal := hv.length
  have hF' := putArgs_sound hF hv hp
  refine ⟨i, i.c, f, (ps.toList.zip cargs).foldl (fun tmps (p : Tmp × Value) => tmps.setIfInBounds p.1 p.2) tmps, asg, body, hi, hver, ?_, ?_⟩
  · have hsz : ¬ cargs.length ≠ ps.size := by omega
    have hz : (ps.zip cargs.toArray).foldl (fun tmps (t, a) => tmps.setIfInBounds t a) tmps = (ps.toList.zip cargs).foldl (fun tmps (p : Tmp × Value) => tmps.setIfInBounds p.1 p.2) tmps := by
      rw [← Array.foldl_toList]
      simp
    have hsz' : ¬ cargs.toArray.size ≠ ps.size := by simpa using hsz
    have hg : (Instr.getLoop i.c).run E.P w = .ok { state := .ready, pending := pend, fn := f, tmps := tmps, params := ps, assign := asg, body := body, defers := dc } w := by
      simp [Instr.getLoop, getObj, Sem.run, hh]
    simp only [Instr.yield, Sem.run_bind, hg, Result.andThen_ok, if_neg hsz', Sem.run_pure]
    rw [hz]
  · refine roundIn_of_wpIn (F := Fence.wide) trivial ?_
    have hsr : SR E K N (some b) (some i.c) ⟨fr', H, []⟩ { tmps := (ps.toList.zip cargs).foldl (fun tmps (p : Tmp × Value) => tmps.setIfInBounds p.1 p.2) tmps, defers := [] } w :=
      ⟨hH, hF', rfl, i, hi, fun _ => rfl, rfl⟩
    refine wpIn_mono (show asg.wpIn (fence (some i.c)) 0 E.P _ _ _ from h K _ _ w hsr) fun e a1 w1 q => ?_
    obtain ⟨K1, s1, hx1, hr1, hq⟩ := q
    cases e with
    | normal =>
      obtain ⟨pend1, fr1, n1, ps1, asg1, body1, d1, hb1, hbody⟩ := hq
      obtain ⟨i1, hi1, ho1⟩ := hr1.H.info hb1
      obtain ⟨j, e1, l1, s1'⟩ := hx1.blk b i hi
      have : j = i1 := Option.some.inj (e1.symm.trans hi1)
      subst this
      have hjv : j.ver = 0 := ho1.1
      have hji : j = i := s1' (by omega)
      subst hji
      obtain ⟨_, f1, tmps1, dc1, hh1, hF1, hd1⟩ := ho1
      have hlt := (Array.getElem?_eq_some_iff.1 hh1).1
      refine ⟨{ w1 with heap := w1.heap.setIfInBounds j.c (.loop { state := .busy, pending := pend1, fn := f1, tmps := tmps1, params := ps1, assign := asg1, body := body1, defers := dc1 }) }, ?_, ?_⟩
      · simp [Instr.beginRound, Instr.getLoop, getObj, setObj, Sem.run, hh1]
      · obtain ⟨z1, z2⟩ := hr1.H.setObj hb1 rfl hi1 (OR.loop_set (st := .busy) (pend := pend1) (ps := ps1) (asg := asg1) (body := body1) (f := f1) hi1 hjv hlt hF1 hd1)
        have hsr2 : SR E (K1.upd b j) N (some b) (some j.c) { s1 with H := s1.H.set b (.loop .busy pend1 fr1 n1 ps1 asg1 body1 d1) } a1 _ := ⟨z2, hr1.F.ext z1, hr1.D.ext z1, hr1.R.ext z1⟩
        refine wpIn_mono (show body.wpIn (fence (some j.c)) 0 E.P _ _ _ from hbody _ _ _ _ hsr2) fun e a2 w2 q => ?_
        obtain ⟨K2, s2, hx2, hr2, hq2⟩ := q
        obtain ⟨st2, pend2, fr2, n2, ps2, asg2, body2, d2, hb2, hq2⟩ := hq2
        obtain ⟨i2, hi2, ho2⟩ := hr2.H.info hb2
        obtain ⟨j2, e2, l2, s2'⟩ := (z1.trans hx2).blk b j hi1
        have : j2 = i2 := Option.some.inj (e2.symm.trans hi2)
        subst this
        have hjv2 : j2.ver = 0 := ho2.1
        have hji2 : j2 = j := s2' (by omega)
        subst hji2
        obtain ⟨_, f2, tmps2, dc2, hh2, hF2, hd2⟩ := ho2
        have hlt2 := (Array.getElem?_eq_some_iff.1 hh2).1
        have fin : ∀ (jump : Option Code) (st' : LoopState), st' = (if jump.isNone then LoopState.ready else .done) → R (.bool jump.isNone) (s2.H.set b (.loop st' jump fr2 n2 ps2 asg2 body2 d2)) →
            ∃ v w', (Instr.endRound j2.c jump).run E.P w2 = .ok v w' ∧ ∃ v' cv K' H', Ending.returned v = .returned cv ∧ Ext K K' ∧ HR E K' H' w' ∧ VR K' v' cv ∧ R v' H' := by
          rintro jump st' rfl hR
          obtain ⟨y1, y2⟩ := hr2.H.setObj hb2 rfl hi2 (OR.loop_set (st := if jump.isNone then LoopState.ready else .done) (pend := jump) (ps := ps2) (asg := asg2) (body := body2) (f := f2) hi2 hjv2 hlt2 hF2 hd2)
          exact ⟨_, _, run_setLoop hh2 jump, .bool jump.isNone, _, _, _, rfl, ((hx1.trans z1).trans hx2).trans y1, y2, rfl, hR⟩
        cases e with
        | normal => exact fin none .ready rfl hq2
        | ret => exact fin (some .ret) .done rfl hq2
        | exit id => exact fin (some (.exit id)) .done rfl hq2
        | _ => exact hq2.elim
    | _ => exact hq.elim

end

end Go.Proofs.Ytoijfbdjlagooaa

/- The logic over abstract states: regions that draw their order. -/
namespace Go.Proofs.Ytoijfbdjlagooaa
open Go Go.RowKit
set_option linter.unusedVariables false
set_option linter.unusedSimpArgs false

def noDefer (ops : Array Oper) : Bool := ops.toList.all fun o => match o.op with | .defer _ => false | _ => true

/-- Operations that leave the memory alone, one after the other. -/
def aq (E : Env) (N : Nat) (ops : Array Oper) : List Oper → Fr → Heap → Option Fr
  | [], fr, _ => some fr
  | o :: r, fr, H => match gd fr ops o with
    | some true => match aopQ E fr H o.op o.type with
      | some v => match putd N fr o.dst v with
        | some fr' => aq E N ops r fr' H
        | none => none
      | none => none
    | some false => match putd N fr o.dst (.tup []) with
      | some fr' => aq E N ops r fr' H
      | none => none
    | none => none

section
variable {P : Program} {ops : Array Oper} {md : Region.Mode} {w : World}

theorem noDefer_spec (h : noDefer ops = true) {i : Nat} {o : Oper} (ho : ops[i]? = some o) (c : Call) : o.op ≠ .defer c := by
  intro hc
  have hm : o ∈ ops.toList := Array.mem_toList_iff.2 (Array.mem_of_getElem? ho)
  have := List.all_eq_true.1 h o hm
  rw [hc] at this
  cases this

theorem wpOpIn_of_stOp {ro : Option Nat} (hd : noDefer ops = true) {i : Nat} {a : Act} {K : Act → Prop} {K' : Act → World → Prop} {Q' : Exit → Act → World → Prop} (h : ∀ a, K a → K' a w) (hh : stOp P ops w i K a) :
    wpOpIn (fence ro) 0 P ops Q' i K' a w := by
  unfold stOp at hh
  unfold wpOpIn
  split
  · rename_i ho; simp only [ho] at hh; exact h _ hh
  · rename_i o ho
    simp only [ho] at hh
    split
    · rename_i hw
      simp only [hw, if_true] at hh
      refine ⟨about_wide rfl _, ?_⟩
      rw [show (fence ro).round = ro from rfl, Oper.semAt_eq ro a.eval o (noDefer_spec hd ho)]
      unfold Oper.still at hh
      generalize (execOp a.eval o).run P w = r at *
      cases r with
      | ok n w' =>
        cases n <;> simp only [Oper.stillUpon] at hh <;> simp only [Oper.uponIn]
        case enter f args =>
          obtain ⟨rfl, v, hc, hn⟩ := hh
          refine ⟨fun hh => by simp [fence, Fence.wide] at hh, ?_⟩
          have hc' : CallsIn (fence ro) 0 P f args w' fun e w'' => e = .returned v ∧ w'' = w' := callsIn_wide (n := 0) |>.2 hc
          exact hc'.mono fun e w'' ⟨he, hw⟩ => by subst he; subst hw; exact h _ hn
        all_goals (obtain ⟨rfl, h2⟩ := hh; exact h _ h2)
      | halt x w' => simp only [Oper.stillUpon] at hh
    · rename_i hw
      simp only [hw] at hh
      exact ⟨about_wide rfl _, h _ hh⟩

theorem wpAnyIn_of_head {ro : Option Nat} (hd : noDefer ops = true) {n g : Nat} {L : Array Bool → Act → Prop} {Q' : Exit → Act → World → Prop} (hL : ∀ listed a, L listed a → wpAnyIn (fence ro) 0 P md ops Q' g listed a w) :
    ∀ (f : Nat) (listed : Array Bool) (a : Act), wpAnyL P md ops w n L f listed a → wpAnyIn (fence ro) 0 P md ops Q' (f + g) listed a w
  | 0, listed, a, h => by rw [Nat.zero_add]; exact hL _ _ h
  | f + 1, listed, a, h => by
    rw [show f + 1 + g = (f + g) + 1 by omega]
    exact ⟨fun h0 => absurd h0 h.1, fun i hi => wpOpIn_of_stOp hd (fun a' h' => wpAnyIn_of_head hd hL f _ a' h') (h.2 i hi).2⟩

theorem wpAnyIn_of_seq {F : Fence} {Q' : Exit → Act → World → Prop} : ∀ (g k : Nat) (listed : Array Bool) (a : Act) (w : World), k + g = ops.size →
    Region.seqB md ops g k listed = true → wpOpsIn F 0 P ops Q' (List.range' k g) a w → wpAnyIn F 0 P md ops Q' g listed a w
  | 0, k, listed, a, w, _, hB, h => ⟨by simpa [Region.seqB] using hB, h⟩
  | g + 1, k, listed, a, w, hl, hB, h => by
    simp only [Region.seqB, Bool.and_eq_true, decide_eq_true_eq] at hB
    refine ⟨fun h1 => (by rw [hB.1] at h1; cases h1), fun i hi => ?_⟩
    rw [hB.1] at hi
    have hik : i = k := by simpa using hi
    subst hik
    rw [List.range'_succ, wpOpsIn_cons] at h
    exact wpOpIn_mono (fun a' w' h' => wpAnyIn_of_seq g (i + 1) _ a' w' (by omega) hB.2 h') h

theorem wpAnyIn_of_still {ro : Option Nat} (hd : noDefer ops = true) {Q : Act → Prop} {Q' : Exit → Act → World → Prop} (hQ : ∀ a, Q a → Q' .normal a w) : ∀ (fuel : Nat) (listed : Array Bool) (a : Act),
    wpAnyS P md ops w Q fuel listed a → wpAnyIn (fence ro) 0 P md ops Q' fuel listed a w
  | 0, _, _, h => ⟨h.1, hQ _ h.2⟩
  | fuel + 1, _, _, h => ⟨fun h0 => hQ _ (h.1 h0), fun i hi => wpOpIn_of_stOp hd (fun a' => wpAnyIn_of_still hd hQ fuel _ a') (h.2 i hi)⟩

end

section
variable {E : Env} {N : Nat} {rd : Option Nat} {Q Q' : Exit → St → Prop} {s : St} {K : Conc} {w : World}

theorem aq_sound {ops : Array Oper} {H : Heap} (hH : HR E K H w) : ∀ {l : List Oper} {fr fr' : Fr} {a : Act} {R : Act → Prop}, FR K N fr a.tmps → aq E N ops l fr H = some fr' →
    (∀ a', FR K N fr' a'.tmps → a'.defers = a.defers → R a') → wpStill E.P ops w R l a
  | [], fr, fr', a, R, hF, h, hR => by
    simp only [aq] at h
    cases h
    exact hR a hF rfl
  | o :: l, fr, fr', a, R, hF, h, hR => by
    simp only [aq] at h
    have dput : ∀ v, (a.put o.dst v).defers = a.defers := fun v => by cases o.dst <;> rfl
    split at h
    · rename_i hg
      split at h
      · rename_i v hv
        split at h
        · rename_i fr1 hp
          obtain ⟨_, cv, h1, h2⟩ := aopQ_sound hH hF hv
          simp only [wpStill, gd_sound hF hg, if_true]
          unfold Oper.still
          rw [h1]
          exact ⟨rfl, aq_sound hH (putd_sound hF h2 hp) h fun a' h3 h4 => hR a' h3 (h4.trans (dput cv))⟩
        · cases h
      · cases h
    · rename_i hg
      split at h
      · rename_i fr1 hp
        simp only [wpStill, gd_sound hF hg, Bool.false_eq_true, if_false]
        exact aq_sound hH (putd_sound (v := .tup []) (cv := undef) hF (by simp only [VR]; exact ⟨#[], rfl, rfl⟩) hp) h fun a' h3 h4 => hR a' h3 (h4.trans (dput undef))
      · cases h
    · cases h

/-- A region that draws its order and leaves the memory alone. -/
theorem AWp.drawQ {id : Nat} {ops : Array Oper} {fr' : Fr} (hm : E.P.follows .mixedOrders = true) (hB : Region.lexB .any ops = true) (hd : noDefer ops = true) (hq : aq E N ops ops.toList s.fr s.H = some fr')
    (h : Q .normal { s with fr := fr' }) : AWp E N rd (.region id ops true) Q s := by
  intro K ro a w hr
  refine wpIn_region_any hm ?_
  have hst := aq_sound (w := w.drew) (R := fun a' => FR K N fr' a'.tmps ∧ a'.defers = a.defers) hr.H.drew hr.F hq (fun a' h1 h2 => ⟨h1, h2⟩)
  simp only [Region.lexB, Bool.and_eq_true] at hB
  have h2 := wpAnyS_lex (md := .any) hB.1 ops.toList 0 (Array.replicate ops.size false) a (by simp) (by simpa using hB.2) hst
  refine wpAnyIn_of_still (w := w.drew) hd (Q := fun a' => FR K N fr' a'.tmps ∧ a'.defers = a.defers) (fun a' h3 => ?_) _ _ _ (by simpa using h2)
  exact ⟨K, { s with fr := fr' }, Ext.refl K, ⟨hr.H.drew, h3.1, by rw [h3.2]; exact hr.D, hr.R⟩, h⟩

/-- A region that draws its order: first what leaves the memory alone, then the rest in order. -/
theorem AWp.drawT {id : Nat} {ops : Array Oper} {fr' : Fr} (n : Nat) (hm : E.P.follows .mixedOrders = true) (hB : Region.lexTailB .any ops n = true) (hd : noDefer ops = true) (hq : aq E N ops (ops.toList.take n) s.fr s.H = some fr')
    (h : AIx E N rd ops (List.range' n (ops.size - n)) Q { s with fr := fr' }) : AWp E N rd (.region id ops true) Q s := by
  intro K ro a w hr
  refine wpIn_region_any hm ?_
  have hst := aq_sound (w := w.drew) (R := fun a' => FR K N fr' a'.tmps ∧ a'.defers = a.defers) hr.H.drew hr.F hq (fun a' h1 h2 => ⟨h1, h2⟩)
  simp only [Region.lexTailB, Bool.and_eq_true, decide_eq_true_eq] at hB
  obtain ⟨⟨⟨⟨hsel, hn⟩, hs⟩, hc⟩, hlex⟩ := hB
  have htl : (ops.toList.take n).length = n := by simp; omega
  have inv0 : HeadInv .any ops n (Array.replicate ops.size false) :=
    ⟨by simp, fun j oj _ hl => (by rw [getD_replicate_false] at hl; cases hl), fun t _ ht => getD_in (by simpa using ht) (getD_replicate_false _ _)⟩
  have H := wpAnyL_lex (md := .any) (g := ops.size - n) hsel hs hc hn (ops.toList.take n) 0 _ a (fun j hj => by
    have hj' : j < n := by rw [htl] at hj; exact hj
    simp [hj']) (by simpa using htl) inv0 (by rw [htl]; exact hlex) hst
  have := wpAnyIn_of_head (Q' := SPost E K N rd ro Q) (ro := ro) hd (g := ops.size - n) (fun listed a' hL => wpAnyIn_of_seq (ops.size - n) n listed a' w.drew (by omega) hL.1
    (h K K ro a' w.drew (Ext.refl K) ⟨hr.H.drew, hL.2.1, by rw [hL.2.2]; exact hr.D, hr.R⟩)) _ _ _ H
  rw [htl, show n + (ops.size - n) = ops.size by omega] at this
  exact this

end

end Go.Proofs.Ytoijfbdjlagooaa

/- What has to hold ahead of an operation, as a proposition that unfolds. -/
namespace Go.Proofs.Ytoijfbdjlagooaa
open Go Go.RowKit
set_option linter.unusedVariables false
set_option linter.unusedSimpArgs false

structure VB (b : Bool) (A B : Prop) : Prop where
  t : b = true → A
  f : b = false → B
theorem VB.tt {A B : Prop} (h : A) : VB true A B := ⟨fun _ => h, fun hh => Bool.noConfusion hh⟩
theorem VB.ff {A B : Prop} (h : B) : VB false A B := ⟨fun hh => Bool.noConfusion hh, fun _ => h⟩

theorem VB.dec {p : Prop} [Decidable p] {A B : Prop} (h : p → A) (k : ¬ p → B) : VB (decide p) A B := ⟨fun e => h (of_decide_eq_true e), fun e => k (of_decide_eq_false e)⟩
theorem VB.eq {a b : Int} {A B : Prop} (h : a = b → A) (k : a ≠ b → B) : VB (a == b) A B := ⟨fun e => h (by simpa using e), fun e => k (by simpa using e)⟩
theorem VB.ne {a b : Int} {A B : Prop} (h : a ≠ b → A) (k : a = b → B) : VB (a != b) A B := ⟨fun e => h (by simpa using e), fun e => k (by simpa using e)⟩
theorem VB.not {b : Bool} {A B : Prop} (h : VB b B A) : VB (!b) A B := ⟨fun e => h.f (by simpa using e), fun e => h.t (by simpa using e)⟩

structure InR (k : IntKind) (n : Int) : Prop where
  eq : k.wrap n = n
structure IntAt (k : IntKind) (cs : List AV) : Prop where
  ex : ∃ n, cs.head? = some (.int k n)
structure BoolAt (cs : List AV) : Prop where
  ex : ∃ n, cs.head? = some (.bool n)
def getInt : List AV → Int
  | .int _ n :: _ => n
  | _ => 0
def getBool : List AV → Bool
  | .bool b :: _ => b
  | _ => false

theorem IntAt.get {k : IntKind} {cs : List AV} (h : IntAt k cs) : cs.head? = some (.int k (getInt cs)) := by
  obtain ⟨n, hn⟩ := h.ex
  cases cs with
  | nil => cases hn
  | cons c cs => simp at hn; subst hn; rfl
theorem BoolAt.get {cs : List AV} (h : BoolAt cs) : cs.head? = some (.bool (getBool cs)) := by
  obtain ⟨n, hn⟩ := h.ex
  cases cs with
  | nil => cases hn
  | cons c cs => simp at hn; subst hn; rfl

def AV.force (Q : AV → Prop) : AV → Prop
  | .bool b => Q (.bool b)
  | .int k n => Q (.int k n)
  | .str s => Q (.str s)
  | .nptr => Q .nptr
  | .ptr b ver off => Q (.ptr b ver off)
  | .dptr cs => Q (.dptr cs)
  | .nsl => Q .nsl
  | .dsl cs len => Q (.dsl cs len)
  | .osl b ver off len sz => Q (.osl b ver off len sz)
  | .nmap => Q .nmap
  | .mapr b => Q (.mapr b)
  | .fn f first captured => Q (.fn f first captured)
  | .yld b => Q (.yld b)
  | .nfn => Q .nfn
  | .iface t v => Q (.iface t v)
  | .niface => Q .niface
  | .agg cs => Q (.agg cs)
  | .tup vs => Q (.tup vs)
theorem AV.of_force {Q : AV → Prop} : ∀ {v : AV}, v.force Q → Q v := by intro v; cases v <;> exact id

def AObj.force (Q : AObj → Prop) : AObj → Prop
  | .cells ver e cs => Q (.cells ver e cs)
  | .map es => Q (.map es)
  | .dfr => Q .dfr
  | .gone => Q .gone
  | .loop st pend fr n ps asg body d => Q (.loop st pend fr n ps asg body d)
theorem AObj.of_force {Q : AObj → Prop} : ∀ {v : AObj}, v.force Q → Q v := by intro v; cases v <;> exact id

def forceH : Heap → (Heap → Prop) → Prop
  | [], Q => Q []
  | o :: r, Q => o.force fun o' => forceH r fun r' => Q (o' :: r')
theorem of_forceH : ∀ {H : Heap} {Q : Heap → Prop}, forceH H Q → Q H
  | [], Q, h => h
  | o :: r, Q, h => of_forceH (Q := fun r' => Q (o :: r')) (AObj.of_force h)

theorem AV.to_force {Q : AV → Prop} : ∀ {v : AV}, Q v → v.force Q := by intro v; cases v <;> exact id
theorem AObj.to_force {Q : AObj → Prop} : ∀ {v : AObj}, Q v → v.force Q := by intro v; cases v <;> exact id
theorem to_forceH : ∀ {H : Heap} {Q : Heap → Prop}, Q H → forceH H Q
  | [], Q, h => h
  | o :: r, Q, h => AObj.to_force (Q := fun o' => forceH r fun r' => Q (o' :: r')) (to_forceH (Q := fun r' => Q (o :: r')) h)

def forceL : List AV → (List AV → Prop) → Prop
  | [], Q => Q []
  | c :: cs, Q => c.force fun c' => forceL cs fun cs' => Q (c' :: cs')
theorem of_forceL : ∀ {cs : List AV} {Q : List AV → Prop}, forceL cs Q → Q cs
  | [], Q, h => h
  | c :: cs, Q, h => of_forceL (Q := fun r' => Q (c :: r')) (AV.of_force (v := c) (Q := fun c' => forceL cs fun cs' => Q (c' :: cs')) h)

def forceO (Q : AV → Prop) : Option AV → Prop
  | some v => v.force Q
  | none => False
theorem of_forceO {Q : AV → Prop} : ∀ {x : Option AV}, forceO Q x → ∃ v, x = some v ∧ Q v
  | some v, h => ⟨v, rfl, AV.of_force h⟩
  | none, h => h.elim

def forceP (Q : AV → Heap → Prop) : Option (AV × Heap) → Prop
  | some (v, H) => v.force fun v' => forceH H (Q v')
  | none => False
theorem of_forceP {Q : AV → Heap → Prop} : ∀ {x : Option (AV × Heap)}, forceP Q x → ∃ r, x = some r ∧ Q r.1 r.2
  | some (v, H), h => ⟨(v, H), rfl, of_forceH (AV.of_force (v := v) (Q := fun v' => forceH H (Q v')) h)⟩
  | none, h => h.elim

/-- The byte at a place of a string. -/
def strAt (s : ByteArray) (n : Nat) : Int := ((s.data.toList.getD n 0).toNat : Int)
/-- Cells that are to be bytes. -/
structure VStr (Q : AV → Prop) (cs : List AV) (m : Nat) : Prop where
  ok : ∃ ns : List Int, cs = ns.map (AV.int .u8) ∧ ns.length = m ∧ Q (.str (strOfNums ns))
theorem VStr.all {ns : List Int} : (ns.map (AV.int .u8)).all isU8 = true ∧ (ns.map (AV.int .u8)).map numOf = ns := by
  induction ns with
  | nil => exact ⟨rfl, rfl⟩
  | cons n ns ih => simp only [List.map_cons, List.all_cons, ih.1, ih.2]; exact ⟨rfl, rfl⟩

section
variable (E : Env) (m : Bool) (fr : Fr) (H : Heap) (Q : AV → Prop)

def vloadC (x : TI) (cs : List AV) : Prop :=
  match x.desc with
  | .int k => IntAt k cs ∧ Q (.int k (getInt cs))
  | .bool => BoolAt cs ∧ Q (.bool (getBool cs))
  | .struct _ | .array _ _ => x.size ≤ cs.length ∧ Q (.agg (cs.take x.size))
  | _ => forceO Q cs.head?

def vload (t : TypeId) (p : AV) : Prop :=
  match E.ti t with
  | none => False
  | some x => match p with
    | .ptr b ver off => match H[b]? with
      | some (.cells v _ cs) => v = ver ∧ vloadC Q x (cs.drop off)
      | _ => False
    | .dptr cs => vloadC Q x cs
    | _ => False

def vint (op : BinOp) (t : TypeId) (k k' : IntKind) (a b : Int) : Prop :=
  match op, decide (k = k') with
  | .add, true => InR k (a + b) ∧ Q (.int k (a + b))
  | .sub, true => InR k (a - b) ∧ Q (.int k (a - b))
  | .mul, true => InR k (a * b) ∧ Q (.int k (a * b))
  | .quo, true => b ≠ 0 ∧ InR k (a.tdiv b) ∧ Q (.int k (a.tdiv b))
  | .rem, true => b ≠ 0 ∧ Q (.int k (a.tmod b))
  | .shl, _ => 0 ≤ b ∧ InR k (a * 2 ^ (min b.toNat k.bits)) ∧ Q (.int k (a * 2 ^ (min b.toNat k.bits)))
  | .shr, _ => 0 ≤ b ∧ Q (.int k (a.fdiv (2 ^ (min b.toNat k.bits))))
  | op, _ => forceO Q (aint E op t k k' a b)

def vbin (op : BinOp) (t : TypeId) (xo yo : Operand) (x y : AV) : Prop :=
  match m, x, y with
  | true, .int k a, .int k' b => vint E Q op t k k' a b
  | true, .osl b ver off len sz, .nsl => match op, E.un t with
    | .eql, some (.slice _) => live H b ver = true ∧ Q (.bool false)
    | .neq, some (.slice _) => live H b ver = true ∧ Q (.bool true)
    | _, _ => False
  | true, .ptr b ver off, .nptr => match op, E.un t with
    | .eql, some (.pointer _) => live H b ver = true ∧ Q (.bool false)
    | .neq, some (.pointer _) => live H b ver = true ∧ Q (.bool true)
    | _, _ => False
  | _, x, y => forceO Q (match abin E op t xo yo x y with
    | some r => some r
    | none => anil E H op t x y)

def vconv (src dst : TypeId) (x : AV) : Prop :=
  match m, E.un dst, x with
  | true, some (.int k), .int _ n => InR k n ∧ Q (.int k n)
  | _, _, x => forceO Q (aconv E src dst x)

def vbytes (src dst : TypeId) (x : AV) : Prop :=
  match E.un src, E.un dst with
  | some (.slice e), some .string => match E.un e with
    | some (.int .u8) => match x with
      | .nsl => Q (.str (strOfNums []))
      | .dsl cs len => VStr Q cs len
      | .osl b ver off len sz => match H[b]? with
        | some (.cells v _ cs) => v = ver ∧ VStr Q ((cs.drop off).take (len * sz)) len
        | _ => False
      | _ => False
    | _ => False
  | _, _ => False

def vindex (t : TypeId) (x ix : AV) : Prop :=
  match x, ix with
  | .str s, .int _ i => match E.un t with
    | some .string => (0 ≤ i ∧ i < s.size) ∧ Q (.int .u8 (strAt s i.toNat))
    | _ => False
  | x, ix => forceO Q (aindex E t x ix)

def vindexAddr (t : TypeId) (x ix : AV) : Prop :=
  match E.un t, ix with
  | some (.slice elem), .int _ i => match E.ti elem with
    | some ⟨ysz, _, _, _⟩ => match x with
      | .osl b ver off len sz => match Nat.beq sz ysz with
        | true => live H b ver = true ∧ (0 ≤ i ∧ i < len) ∧ Q (.ptr b ver (off + i.toNat * sz))
        | false => False
      | .dsl cs len => (0 ≤ i ∧ i < len ∧ i.toNat * ysz < cs.length) ∧ Q (.dptr (cs.drop (i.toNat * ysz)))
      | _ => False
    | none => False
  | some (.array n elem), .int _ i => match E.ti elem with
    | some ⟨ysz, _, _, _⟩ => match x with
        | .ptr b ver off => live H b ver = true ∧ (0 ≤ i ∧ i < n) ∧ Q (.ptr b ver (off + i.toNat * ysz))
        | .dptr cs => (0 ≤ i ∧ i < n) ∧ Q (.dptr (cs.drop (i.toNat * ysz)))
        | _ => False
    | none => False
  | _, _ => False

def vbound (d : Nat) (x : Option AV) (K : Nat → Prop) : Prop :=
  match x with
  | none => K d
  | some (.int _ i) => 0 ≤ i ∧ K i.toNat
  | _ => False

def vslice (t : TypeId) (x : AV) (lo hi : Option AV) : Prop :=
  match E.un t, x with
  | some (.slice elem), .dsl cs len => match E.ti elem with
    | some ⟨ysz, _, _, _⟩ => vbound len hi fun h => vbound 0 lo fun l => (l ≤ h ∧ h ≤ len) ∧ Q (.dsl ((cs.drop (l * ysz)).take ((h - l) * ysz)) (h - l))
    | none => False
  | some (.slice elem), .osl b ver off len sz => match E.ti elem with
    | some ⟨ysz, _, _, _⟩ => match Nat.beq sz ysz with
      | true => live H b ver = true ∧ (match lo with
        | none => vbound len hi fun h => h ≤ len ∧ Q (.osl b ver off h sz)
        | some _ => vbound len hi fun h => vbound 0 lo fun l => ((l = 0 ∨ l < h) ∧ h ≤ len) ∧ Q (.osl b ver (off + l * sz) (h - l) sz))
      | false => False
    | none => False
  | some .string, .str s => vbound s.size hi fun h => vbound 0 lo fun l => (l ≤ h ∧ h ≤ s.size) ∧ Q (.str (s.extract l h))
  | _, x => forceO Q (aslice E H t x lo hi)

def vlen (ts : Array TypeId) (ty : TypeId) (xs : List AV) : Prop :=
  match xs, ts[0]? with
  | [.osl b ver off len sz], some t => match E.un t with
    | some (.slice _) => live H b ver = true ∧ Q (.int .i64 len)
    | _ => False
  | xs, _ => forceO Q (abuiltin E H .len ts ty xs)

def vnil (p : AV) : Prop :=
  match p with
  | .ptr b ver off => live H b ver = true ∧ Q (.ptr b ver off)
  | .dptr cs => Q (.dptr cs)
  | .iface t v => Q (.iface t v)
  | .fn (.func f) a b => Q (.fn (.func f) a b)
  | .yld b => match H[b]? with
    | some (.loop ..) => Q (.yld b)
    | _ => False
  | _ => False

def vfieldAddr (s : TypeId) (p : AV) (f : Nat) : Prop :=
  match E.un s with
  | some (.struct fields) => match fields.toList[f]? with
    | some fd => match E.ti fd.type with
      | some ⟨sz, _, _, _⟩ => match Nat.blt 0 sz with
        | true => match p with
          | .ptr b ver off => live H b ver = true ∧ Q (.ptr b ver (off + fd.offset))
          | .dptr cs => Q (.dptr (cs.drop fd.offset))
          | _ => False
        | false => False
      | none => False
    | none => False
  | _ => False

def vbuild (t : TypeId) (parts : List (Nat × AV)) : Prop :=
  match abuild E t parts with
  | some (.agg cs) => forceL cs fun cs' => Q (.agg cs')
  | _ => False

/-- One quiet operation. -/
def vopQ (op : Op) (ty : TypeId) : Prop :=
  match op with
  | .load t x => match ev E fr x with
    | some p => vload E H Q t p
    | none => False
  | .binOp op t x y _ => match ev E fr x, ev E fr y with
    | some u, some v => vbin E m H Q op t x y u v
    | _, _ => False
  | .convert src dst x => match ev E fr x, E.un src with
    | some u, some (.slice _) => vbytes E H Q src dst u
    | some u, some _ => vconv E m Q src dst u
    | _, _ => False
  | .slice t x lo hi none => match ev E fr x, evo E fr lo, evo E fr hi with
    | some u, some l, some h => vslice E H Q t u l h
    | _, _, _ => False
  | .indexAddr t x i => match ev E fr x, ev E fr i with
    | some u, some v => vindexAddr E H Q t u v
    | _, _ => False
  | .nilCheck x => match ev E fr x with
    | some p => vnil H Q p
    | none => False
  | .build t ps => match evp E fr ps.toList with
    | some l => vbuild E Q t l
    | none => False
  | .fieldAddr s x f => match ev E fr x with
    | some p => vfieldAddr E H Q s p f
    | none => False
  | .index t x i => match ev E fr x, ev E fr i with
    | some u, some v => vindex E Q t u v
    | _, _ => False
  | .call { callee := .builtin .len, args, argTypes } => match evs E fr args.toList with
    | some xs => vlen E H Q argTypes ty xs
    | none => False
  | op => forceO Q (aopQ E fr H op ty)

variable {E m fr H Q}

theorem vloadC_ok {t : TypeId} {p : AV} {x : TI} {cs : List AV} (hx : E.ti t = some x) (hc : cellsAt H p = some cs) (h : vloadC Q x cs) : ∃ v, aload E H t p = some v ∧ Q v := by
  have key : x.isAgg = false → aload E H t p = cs.head? := by
    intro ha
    simp [aload, hx, hc, ha]
  have key2 : x.isAgg = true → x.size ≤ cs.length → aload E H t p = some (.agg (cs.take x.size)) := by
    intro ha hl
    simp [aload, hx, hc, ha, hl]
  unfold vloadC at h
  split at h
  · rename_i k hd
    exact ⟨_, (key (by simp [TI.isAgg, hd, descAgg])).trans h.1.get, h.2⟩
  · rename_i hd
    exact ⟨_, (key (by simp [TI.isAgg, hd, descAgg])).trans h.1.get, h.2⟩
  · rename_i fs hd
    exact ⟨_, key2 (by simp [TI.isAgg, hd, descAgg]) h.1, h.2⟩
  · rename_i n e hd
    exact ⟨_, key2 (by simp [TI.isAgg, hd, descAgg]) h.1, h.2⟩
  · rename_i h1 h2 h3 h4
    have ha : x.isAgg = false := by
      unfold TI.isAgg descAgg
      split
      · rename_i fs hd; exact absurd hd (h3 fs)
      · rename_i n e hd; exact absurd hd (h4 n e)
      · rfl
    rw [key ha]
    exact of_forceO h

theorem vload_ok {t : TypeId} {p : AV} (h : vload E H Q t p) : ∃ v, aload E H t p = some v ∧ Q v := by
  unfold vload at h
  split at h
  · exact h.elim
  · rename_i x hx
    split at h
    · rename_i b ver off
      split at h
      · rename_i v e cs hb
        exact vloadC_ok hx (by simp only [cellsAt, hb, if_pos h.1]) h.2
      · exact h.elim
    · exact vloadC_ok hx rfl h
    · exact h.elim

theorem vint_ok {op : BinOp} {t : TypeId} {k k' : IntKind} {a b : Int} (h : vint E Q op t k k' a b) : ∃ v, aint E op t k k' a b = some v ∧ Q v := by
  unfold vint at h
  split at h
  · rename_i hk; have hk := of_decide_eq_true hk; exact ⟨_, by simp only [aint, if_pos hk, h.1.eq], h.2⟩
  · rename_i hk; have hk := of_decide_eq_true hk; exact ⟨_, by simp only [aint, if_pos hk, h.1.eq], h.2⟩
  · rename_i hk; have hk := of_decide_eq_true hk; exact ⟨_, by simp only [aint, if_pos hk, h.1.eq], h.2⟩
  · rename_i hk; have hk := of_decide_eq_true hk; exact ⟨_, by simp only [aint, if_pos (⟨hk, h.1⟩ : k = k' ∧ b ≠ 0), h.2.1.eq], h.2.2⟩
  · rename_i hk; have hk := of_decide_eq_true hk; exact ⟨_, by simp only [aint, if_pos (⟨hk, h.1⟩ : k = k' ∧ b ≠ 0)], h.2⟩
  · exact ⟨_, by simp only [aint, if_pos h.1, h.2.1.eq], h.2.2⟩
  · exact ⟨_, by simp only [aint, if_pos h.1], h.2⟩
  · exact of_forceO h

theorem vbin_ok {op : BinOp} {t : TypeId} {xo yo : Operand} {x y : AV} (h : vbin E m H Q op t xo yo x y) : ∃ v, (match abin E op t xo yo x y with
    | some r => some r
    | none => anil E H op t x y) = some v ∧ Q v := by
  unfold vbin at h
  split at h
  · obtain ⟨v, h1, h2⟩ := vint_ok h
    exact ⟨v, by simp only [abin, h1], h2⟩
  · split at h
    · rename_i hu
      exact ⟨_, by simp only [abin, toV, anil, isNil, hu, h.1, if_true], h.2⟩
    · rename_i hu
      exact ⟨_, by simp only [abin, toV, anil, isNil, hu, h.1, if_true], h.2⟩
    · exact h.elim
  · split at h
    · rename_i hu
      exact ⟨_, by simp only [abin, toV, anil, isNil, hu, h.1, if_true], h.2⟩
    · rename_i hu
      exact ⟨_, by simp only [abin, toV, anil, isNil, hu, h.1, if_true], h.2⟩
    · exact h.elim
  · exact of_forceO h

theorem vlen_ok {ts : Array TypeId} {ty : TypeId} {xs : List AV} (h : vlen E H Q ts ty xs) : ∃ v, abuiltin E H .len ts ty xs = some v ∧ Q v := by
  unfold vlen at h
  split at h
  · rename_i ht
    split at h
    · rename_i hu
      exact ⟨_, by simp only [abuiltin, ht, alen, hu, h.1, if_true], h.2⟩
    · exact h.elim
  · exact of_forceO h

theorem vnil_ok {x : Operand} {p : AV} {ty : TypeId} (hp : ev E fr x = some p) (h : vnil H Q p) : ∃ v, aopQ E fr H (.nilCheck x) ty = some v ∧ Q v := by
  unfold vnil at h
  split at h
  · exact ⟨_, by simp only [aopQ, hp, h.1, if_true], h.2⟩
  · exact ⟨_, by simp only [aopQ, hp], h⟩
  · exact ⟨_, by simp only [aopQ, hp], h⟩
  · exact ⟨_, by simp only [aopQ, hp], h⟩
  · split at h
    · rename_i hb; exact ⟨_, by simp only [aopQ, hp, hb], h⟩
    · exact h.elim
  · exact h.elim

theorem vfieldAddr_ok {s : TypeId} {p : AV} {f : Nat} (h : vfieldAddr E H Q s p f) : ∃ v, afieldAddr E H s p f = some v ∧ Q v := by
  unfold vfieldAddr at h
  split at h
  · rename_i fields hu
    rw [Array.getElem?_toList] at h
    split at h
    · rename_i fd hf
      split at h
      · rename_i sz yb yz yd hx
        split at h
        · rename_i hsz
          have hsz : 0 < sz := Nat.le_of_ble_eq_true hsz
          have hne : ¬ sz = 0 := by omega
          split at h
          · exact ⟨_, by simp only [afieldAddr, hu, hf, hx, if_neg hne, h.1, if_true], h.2⟩
          · exact ⟨_, by simp only [afieldAddr, hu, hf, hx, if_neg hne], h⟩
          · exact h.elim
        · exact h.elim
      · exact h.elim
    · exact h.elim
  · exact h.elim

theorem vconv_ok {src dst : TypeId} {x : AV} (h : vconv E m Q src dst x) : ∃ v, aconv E src dst x = some v ∧ Q v := by
  unfold vconv at h
  split at h
  · rename_i hd; exact ⟨_, by simp only [aconv, hd, h.1.eq], h.2⟩
  · exact of_forceO h

theorem vindexAddr_ok {t : TypeId} {x ix : AV} (h : vindexAddr E H Q t x ix) : ∃ v, aindexAddr E H t x ix = some v ∧ Q v := by
  unfold vindexAddr at h
  split at h
  · rename_i elem kk i hu
    split at h
    · rename_i ysz yb yz yd hy
      split at h
      · split at h
        · rename_i hs
          have hs := Nat.eq_of_beq_eq_true hs
          exact ⟨_, by simp only [aindexAddr, hu, hy]; rw [if_pos ⟨h.1, hs, h.2.1.1, h.2.1.2⟩], h.2.2⟩
        · exact h.elim
      · exact ⟨_, by simp only [aindexAddr, hu, hy]; rw [if_pos h.1], h.2⟩
      · exact h.elim
    · exact h.elim
  · rename_i n elem kk i hu
    split at h
    · rename_i ysz yb yz yd hy
      split at h
      · exact ⟨_, by simp only [aindexAddr, hu, hy]; rw [if_pos h.2.1, if_pos h.1], h.2.2⟩
      · exact ⟨_, by simp only [aindexAddr, hu, hy]; rw [if_pos h.1], h.2⟩
      · exact h.elim
    · exact h.elim
  · exact h.elim

theorem vbound_ok {d : Nat} {x : Option AV} {K : Nat → Prop} (h : vbound d x K) : ∃ n, bound d x = some n ∧ K n := by
  unfold vbound at h
  split at h
  · exact ⟨d, rfl, h⟩
  · exact ⟨_, by simp only [bound, if_pos h.1], h.2⟩
  · exact h.elim

theorem vslice_ok {t : TypeId} {x : AV} {lo hi : Option AV} (h : vslice E H Q t x lo hi) : ∃ v, aslice E H t x lo hi = some v ∧ Q v := by
  unfold vslice at h
  split at h
  · rename_i elem cs len hu
    split at h
    · rename_i ysz yb yz yd hy
      obtain ⟨hh, h1, h⟩ := vbound_ok h
      obtain ⟨ll, h2, h⟩ := vbound_ok h
      exact ⟨_, by simp only [aslice, hu, hy, h1, h2, if_pos h.1], h.2⟩
    · exact h.elim
  · rename_i elem b ver off len sz hu
    split at h
    · rename_i ysz yb yz yd hy
      split at h
      · rename_i hs
        have hs := Nat.eq_of_beq_eq_true hs
        obtain ⟨hl, h⟩ := h
        split at h
        · obtain ⟨hh, h1, h⟩ := vbound_ok h
          have : live H b ver = true ∧ sz = ysz ∧ 0 ≤ hh ∧ hh ≤ len := ⟨hl, hs, by omega, h.1⟩
          have hb0 : bound 0 none = some 0 := rfl
          exact ⟨_, by simp only [aslice, hu, hy, h1, hb0, if_pos this]; rfl, h.2⟩
        · obtain ⟨hh, h1, h⟩ := vbound_ok h
          obtain ⟨ll, h2, h⟩ := vbound_ok h
          have : live H b ver = true ∧ sz = ysz ∧ ll ≤ hh ∧ hh ≤ len := ⟨hl, hs, by omega, h.1.2⟩
          refine ⟨_, ?_, h.2⟩
          simp only [aslice, hu, hy, h1, h2, if_pos this]
          rcases h.1.1 with h0 | h0
          · subst h0; simp
          · by_cases h00 : ll = 0
            · subst h00; simp
            · simp [h00, h0]
      · exact h.elim
    · exact h.elim
  · rename_i s hu
    obtain ⟨hh, h1, h⟩ := vbound_ok h
    obtain ⟨ll, h2, h⟩ := vbound_ok h
    exact ⟨_, by simp only [aslice, hu, h1, h2, if_pos h.1], h.2⟩
  · exact of_forceO h

theorem vbytes_ok {src dst : TypeId} {x : AV} (h : vbytes E H Q src dst x) : ∃ v, abytes E H src dst x = some v ∧ Q v := by
  unfold vbytes at h
  split at h
  · rename_i e hs hd
    split at h
    · rename_i he
      split at h
      · exact ⟨_, by simp only [abytes, hs, hd, he, sliceCells]; rfl, h⟩
      · obtain ⟨ns, rfl, hl, hq⟩ := h.ok
        refine ⟨_, ?_, hq⟩
        simp only [abytes, hs, hd, he, sliceCells]
        rw [if_pos ⟨by simpa using hl, VStr.all.1⟩, VStr.all.2]
      · split at h
        · rename_i v e' cs hb
          obtain ⟨hv, h⟩ := h
          obtain ⟨ns, hc, hl, hq⟩ := h.ok
          refine ⟨_, ?_, hq⟩
          simp only [abytes, hs, hd, he, sliceCells, hb, if_pos hv, hc]
          rw [if_pos ⟨by simpa using hl, VStr.all.1⟩, VStr.all.2]
        · exact h.elim
      · exact h.elim
    · exact h.elim
  · exact h.elim

theorem vindex_ok {t : TypeId} {x ix : AV} (h : vindex E Q t x ix) : ∃ v, aindex E t x ix = some v ∧ Q v := by
  unfold vindex at h
  split at h
  · rename_i s k i
    split at h
    · rename_i hu
      refine ⟨_, ?_, h.2⟩
      have hi : i.toNat < s.size := by have := h.1; omega
      have hi' : i.toNat < s.data.toList.length := hi
      simp only [aindex, hu, if_pos h.1.1]
      rw [getElem?_pos s i.toNat hi]
      show some (AV.int .u8 ((s[i.toNat]).toNat : Int)) = some (AV.int .u8 (strAt s i.toNat))
      have : s.data.toList.getD i.toNat 0 = s[i.toNat] := by
        rw [List.getD_eq_getElem?_getD, List.getElem?_eq_getElem hi']
        rfl
      rw [strAt, this]
    · exact h.elim
  · exact of_forceO h

theorem vopQ_ok {op : Op} {ty : TypeId} (h : vopQ E m fr H Q op ty) : ∃ v, aopQ E fr H op ty = some v ∧ Q v := by
  unfold vopQ at h
  split at h
  · split at h
    · rename_i hp; obtain ⟨v, h1, h2⟩ := vload_ok h; exact ⟨v, by simp only [aopQ, hp, h1], h2⟩
    · exact h.elim
  · split at h
    · rename_i hx hy; obtain ⟨v, h1, h2⟩ := vbin_ok h; exact ⟨v, by simp only [aopQ, hx, hy]; exact h1, h2⟩
    · exact h.elim
  · split at h
    · rename_i hx hy; obtain ⟨v, h1, h2⟩ := vbytes_ok h; exact ⟨v, by simp only [aopQ, hx, hy]; exact h1, h2⟩
    · rename_i hns hx hy
      obtain ⟨v, h1, h2⟩ := vconv_ok h
      refine ⟨v, ?_, h2⟩
      simp only [aopQ, hx, hy]
      exact h1
    · exact h.elim
  · split at h
    · rename_i hx hy hz; obtain ⟨v, h1, h2⟩ := vslice_ok h; exact ⟨v, by simp only [aopQ, hx, hy, hz]; exact h1, h2⟩
    · exact h.elim
  · split at h
    · rename_i hx hy; obtain ⟨v, h1, h2⟩ := vindexAddr_ok h; exact ⟨v, by simp only [aopQ, hx, hy]; exact h1, h2⟩
    · exact h.elim
  · split at h
    · rename_i hp; exact vnil_ok hp h
    · exact h.elim
  · split at h
    · rename_i l hp
      unfold vbuild at h
      split at h
      · rename_i cs hb; exact ⟨_, by simp only [aopQ, hp, hb], of_forceL h⟩
      · exact h.elim
    · exact h.elim
  · split at h
    · rename_i hp; obtain ⟨v, h1, h2⟩ := vfieldAddr_ok h; exact ⟨v, by simp only [aopQ, hp]; exact h1, h2⟩
    · exact h.elim
  · split at h
    · rename_i hx hy; obtain ⟨v, h1, h2⟩ := vindex_ok h; exact ⟨v, by simp only [aopQ, hx, hy]; exact h1, h2⟩
    · exact h.elim
  · split at h
    · rename_i hp; obtain ⟨v, h1, h2⟩ := vlen_ok h; exact ⟨v, by simp only [aopQ, hp]; exact h1, h2⟩
    · exact h.elim
  · exact of_forceO h

end

section
variable (E : Env) (fr : Fr) (H : Heap) (Q : AV → Heap → Prop)

def vstore (t : TypeId) (p v : AV) : Prop :=
  match E.ti t, p, v.cells with
  | some x, .ptr b ver off, some vs => match H[b]? with
    | some (.cells v' e cs) => match Nat.beq vs.length x.size with
      | true => v' = ver ∧ off + vs.length ≤ cs.length ∧ forceH (H.set b (.cells ver e (splice cs off vs))) (Q (.tup []))
      | false => False
    | _ => False
  | _, _, _ => False

def vmakeSlice (t : TypeId) (l c : AV) : Prop :=
  match E.un t, l, c with
  | some (.slice elem), .int _ n, .int _ m => match E.ti elem with
    | some ⟨ysz, yby, yz, _⟩ => (0 ≤ n ∧ n ≤ m ∧ yby * m.toNat ≤ 281474976710656 ∧ m ≤ 281474976710656) ∧ forceH (H ++ [.cells 0 elem (reps n.toNat yz)]) (Q (.osl H.length 0 0 n.toNat ysz))
    | none => False
  | _, _, _ => False

def vbuildSlice (t : TypeId) (len : Nat) (parts : List (Nat × AV)) : Prop :=
  match abuildSlice E H t len parts, E.un t with
  | some (.osl b ver off l sz, H'), some (.slice elem) => match H'.getLast? with
    | some (.cells v e cs) => match Nat.beq b H.length, Nat.beq e elem with
      | true, true => forceL cs fun cs' => (H' = H ++ [.cells v e cs']) ∧ forceH (H ++ [.cells v e cs']) (Q (.osl b ver off l sz))
      | _, _ => False
    | _ => False
  | _, _ => False

def vappend (t u : TypeId) (s x : AV) : Prop :=
  match E.un t, E.un u with
  | some (.slice elem), some (.slice _) => match E.ti elem, sliceCells H x with
    | some ⟨ysz, yby, _, _⟩, some (news, m) => match Nat.blt 0 ysz with
      | true => match s with
        | .osl b ver 0 len sz => match H[b]? with
          | some (.cells v e cs) => match Nat.beq e elem, Nat.beq sz ysz with
            | true, true => v = ver ∧ (news.length = m * ysz ∧ len * sz ≤ cs.length ∧ (len + m) * yby ≤ 140737488355328 ∧ len + m ≤ 140737488355328) ∧
                forceH (H.set b (.cells (ver + 1) elem (cs.take (len * sz) ++ news))) (Q (.osl b (ver + 1) 0 (len + m) sz))
            | _, _ => False
          | _ => False
        | .nsl => news.length = m * ysz ∧ VB (decide (m = 0)) (Q .nsl H) ((m * yby ≤ 140737488355328 ∧ m ≤ 140737488355328) ∧ forceH (H ++ [.cells 0 elem news]) (Q (.osl H.length 0 0 m ysz)))
        | _ => False
      | false => False
    | _, _ => False
  | _, _ => False

def vopW (op : Op) (ty : TypeId) : Prop :=
  match op with
  | .store t a x => match ev E fr a, ev E fr x with
    | some p, some v => vstore E H Q t p v
    | _, _ => False
  | .makeSlice t l c => match ev E fr l, ev E fr c with
    | some u, some v => vmakeSlice E H Q t u v
    | _, _ => False
  | .call { callee := .builtin .append, args, argTypes } => match evs E fr args.toList with
    | some [s, x] => match argTypes[0]?, argTypes[1]? with
      | some t, some u => vappend E H Q t u s x
      | _, _ => False
    | _ => False
  | .buildSlice t n ps => match evp E fr ps.toList with
    | some l => vbuildSlice E H Q t n l
    | none => False
  | op => forceP Q (aopW E fr H op ty)

variable {E fr H Q}

theorem vstore_ok {t : TypeId} {p v : AV} (h : vstore E H Q t p v) : ∃ H', astore E H t p v = some H' ∧ Q (.tup []) H' := by
  unfold vstore at h
  split at h
  · rename_i x b ver off vs hx hv
    split at h
    · rename_i v' e cs hb
      split at h
      · rename_i h2
        have h2 := Nat.eq_of_beq_eq_true h2
        exact ⟨_, by simp only [astore, hx, hv, hb]; rw [if_pos ⟨h.1, h2, h.2.1⟩], of_forceH h.2.2⟩
      · exact h.elim
    · exact h.elim
  · exact h.elim

theorem vmakeSlice_ok {t : TypeId} {l c : AV} (h : vmakeSlice E H Q t l c) : ∃ r, amakeSlice E H t l c = some r ∧ Q r.1 r.2 := by
  unfold vmakeSlice at h
  split at h
  · rename_i hu
    split at h
    · rename_i ysz yb yz yd hy
      exact ⟨(_, _), by simp only [amakeSlice, hu, hy]; rw [if_pos h.1], of_forceH h.2⟩
    · exact h.elim
  · exact h.elim

theorem vappend_ok {t u : TypeId} {s x : AV} (h : vappend E H Q t u s x) : ∃ r, aappend E H t u s x = some r ∧ Q r.1 r.2 := by
  unfold vappend at h
  split at h
  · rename_i elem e2 hu hv
    split at h
    · rename_i ysz yb yz yd news m hy hs
      split at h
      · rename_i h0
        have h0 : 0 < ysz := Nat.le_of_ble_eq_true h0
        split at h
        · rename_i b ver len sz
          split at h
          · rename_i v e cs hb
            split at h
            · rename_i h2 h3
              have h2 := Nat.eq_of_beq_eq_true h2
              have h3 := Nat.eq_of_beq_eq_true h3
              refine ⟨(_, _), ?_, of_forceH h.2.2⟩
              simp only [aappend, hu, hv, hy, hs, hb]
              rw [if_pos ⟨h.2.1.1, h0⟩, if_pos ⟨h.1, h2, h3, h.2.1.2⟩]
            · exact h.elim
          · exact h.elim
        · by_cases hm : m = 0
          · refine ⟨(_, _), ?_, h.2.t (decide_eq_true hm)⟩
            simp only [aappend, hu, hv, hy, hs]
            rw [if_pos ⟨h.1, h0⟩, if_pos hm]
          · have h2 := h.2.f (decide_eq_false hm)
            refine ⟨(_, _), ?_, of_forceH h2.2⟩
            simp only [aappend, hu, hv, hy, hs]
            rw [if_pos ⟨h.1, h0⟩, if_neg hm, if_pos h2.1]
        · exact h.elim
      · exact h.elim
    · exact h.elim
  · exact h.elim

theorem vopW_ok {op : Op} {ty : TypeId} (h : vopW E fr H Q op ty) : ∃ r, aopW E fr H op ty = some r ∧ Q r.1 r.2 := by
  unfold vopW at h
  split at h
  · split at h
    · rename_i hp hx
      obtain ⟨H', h1, h2⟩ := vstore_ok h
      exact ⟨_, by simp only [aopW, hp, hx, h1, Option.map]; rfl, h2⟩
    · exact h.elim
  · split at h
    · rename_i hx hy
      obtain ⟨r, h1, h2⟩ := vmakeSlice_ok h
      exact ⟨r, by simp only [aopW, hx, hy]; exact h1, h2⟩
    · exact h.elim
  · split at h
    · rename_i hx
      split at h
      · rename_i ht hu
        obtain ⟨r, h1, h2⟩ := vappend_ok h
        exact ⟨r, by simp only [aopW, hx, ht, hu]; exact h1, h2⟩
      · exact h.elim
    · exact h.elim
  · split at h
    · rename_i l hp
      unfold vbuildSlice at h
      split at h
      · rename_i b ver off len sz H' elem hb hu
        split at h
        · rename_i v e cs hl
          split at h
          · have h2 := of_forceL (Q := fun cs' => (H' = H ++ [.cells v e cs']) ∧ forceH (H ++ [.cells v e cs']) (Q (.osl b ver off len sz))) h
            exact ⟨(.osl b ver off len sz, H'), by simp only [aopW, hp, hb], by dsimp only; rw [h2.1]; exact of_forceH h2.2⟩
          · exact h.elim
        · exact h.elim
      · exact h.elim
    · exact h.elim
  · exact of_forceP h

end

end Go.Proofs.Ytoijfbdjlagooaa

/- What is new may be data at once. -/
namespace Go.Proofs.Ytoijfbdjlagooaa
open Go Go.RowKit
set_option linter.unusedVariables false
set_option linter.unusedSimpArgs false

theorem CR.of {K : Conc} : ∀ {cs : List AV} {us : List Value} {b o : Nat}, VRL K cs us → (∀ j u, us[j]? = some u → K.imm b (o + j) = some u) → cs.all AV.one = true → CR K cs b o
  | [], us, b, o, h, hi, ho => trivial
  | c :: cs, us, b, o, h, hi, ho => by
    simp only [VRL] at h
    obtain ⟨u, us', rfl, h1, h2⟩ := h
    simp only [List.all_cons, Bool.and_eq_true] at ho
    simp only [CR]
    refine ⟨ho.1, ⟨u, by simpa using hi 0 u rfl, h1⟩, CR.of h2 (fun j u' hj => ?_) ho.2⟩
    have := hi (j + 1) u' (by simpa using hj)
    rw [show o + 1 + j = o + (j + 1) by omega]
    exact this

theorem cell_of_arr {w : World} {c : Nat} {arr : Array Value} {e : TypeId} {x : Nat × Nat} (h : w.heap[c]? = some (.cells arr e x)) (j : Nat) : w.cell? ⟨c, j, none⟩ = arr[j]? := by
  simp [World.cell?, h]


/-- What becomes of a value and of the heap; a block may be given up: what lies in it is data from now on. -/
structure VNew (E : Env) (Kc : AV → Heap → Prop) (v : AV) (H : Heap) : Prop where
  ok : ∀ (K : Conc) (w : World) (cv : Value), HR E K H w → VR K v cv → ∃ K' v' H', Ext K K' ∧ HR E K' H' w ∧ VR K' v' cv ∧ Kc v' H'

section
variable {E : Env} {K : Conc} {H : Heap} {w : World} {Kc : AV → Heap → Prop} {v : AV}

theorem VNew.keep (h : Kc v H) : VNew E Kc v H := ⟨fun K w cv hH hv => ⟨K, v, H, Ext.refl K, hH, hv, h⟩⟩

def Conc.give (K : Conc) (c : Nat) (w : World) : Conc :=
  { K with imm := fun c' o => match K.imm c' o with
    | some v => some v
    | none => if c' = c then w.cell? ⟨c', o, none⟩ else none }

theorem HR.give (hH : HR E K H w) {b : Nat} {i : BI} {ob : AObj} (hb : H[b]? = some ob) (hi : K.blk[b]? = some i) : Ext K (K.give i.c w) ∧ HR E (K.give i.c w) (H.set b .gone) w ∧
    ∀ o v, w.cell? ⟨i.c, o, none⟩ = some v → (K.give i.c w).imm i.c o = some v := by
  have imm1 : ∀ c o v, K.imm c o = some v → (K.give i.c w).imm c o = some v := fun c o v h => by simp [Conc.give, h]
  have hx : Ext K (K.give i.c w) := by
    refine ⟨imm1, Nat.le_refl _, fun b i e => ⟨i, e, Nat.le_refl _, fun _ => rfl⟩, rfl, rfl, fun c o v e => ?_⟩
    simp only [Conc.give] at e
    split at e
    · rename_i u hu; cases e; exact .inl hu
    · split at e
      · rename_i hc; subst hc; exact .inr (hH.low b i hi)
      · cases e
  have hbl : b < H.length := (List.getElem?_eq_some_iff.1 hb).1
  refine ⟨hx, ⟨by simpa [Conc.give] using hH.len, fun b' o' j e e' => ?_, hH.low, hH.inj, fun b' j o' oo eo ek e => ?_, fun c o v e => ?_, hH.below, hH.hB, fun g cs e => CR.ext hx _ _ _ (hH.glob g cs e)⟩, fun o v e => ?_⟩
  · have e' : K.blk[b']? = some j := e'
    by_cases hbb : b = b'
    · subst hbb
      simp [hbl] at e
      subst e
      exact hH.at_ e'
    · exact (hH.obj b' o' j (by simpa [hbb] using e) e').mono hx rfl
  · have e : K.blk[b']? = some j := e
    by_cases hbb : b = b'
    · subst hbb
      simp [hbl] at eo
      subst eo
      cases ek
    · have h1 := hH.off b' j o' oo (by simpa [hbb] using eo) ek e
      simp only [Conc.give, h1]
      rw [if_neg]
      intro hc
      exact hbb (hH.inj b b' i j hi e hc.symm)
  · simp only [Conc.give] at e
    split at e
    · rename_i u hu; cases e; exact hH.imm c o _ hu
    · split at e
      · exact e
      · cases e
  · simp only [Conc.give]
    split
    · rename_i u hu
      rw [hH.imm _ _ _ hu] at e
      exact e
    · simpa using e

theorem HR.giveSlice (hH : HR E K H w) {b ver e : Nat} {cs : List AV} (hb : H[b]? = some (.cells ver e cs)) : ∃ K', Ext K K' ∧ HR E K' (H.set b .gone) w ∧
    ∀ off len sz cv, VR K (.osl b ver off len sz) cv → VR K' (.dsl ((cs.drop off).take (len * sz)) len) cv := by
  obtain ⟨i, hi, ho⟩ := hH.info hb
  obtain ⟨hv, arr, h1, h2, h3, h4, h5⟩ := ho
  obtain ⟨hx, hg, hk⟩ := hH.give hb hi
  refine ⟨_, hx, hg, fun off len sz cv h => ?_⟩
  obtain ⟨cap, e1, e2, e3, e4⟩ := VR.osl_eq h hi hv
  subst e1
  simp only [VR]
  refine ⟨_, cap, rfl, e2, fun hne => ⟨i.c, off, rfl, CR.of (VRL.ext hx _ _ (VRL.take _ (VRL.drop off h5))) (fun j u hj => ?_) (List.all_eq_true.2 fun x hx => List.all_eq_true.1 h3 x (List.mem_of_mem_drop (List.mem_of_mem_take hx)))⟩⟩
  refine hk _ _ ?_
  rw [cell_of_arr h1]
  rw [List.getElem?_take] at hj
  split at hj
  · rw [List.getElem?_drop, List.getElem?_take] at hj
    split at hj
    · simpa using hj
    · cases hj
  · cases hj

/-- What was built becomes data. -/
theorem VNew.dat {b ver off len sz e : Nat} {cs cs' : List AV} (hb : H[b]? = some (.cells ver e cs)) (hcs : (cs.drop off).take (len * sz) = cs') (h : forceH (H.set b .gone) (Kc (.dsl cs' len))) : VNew E Kc (.osl b ver off len sz) H := by
  refine ⟨fun K w cv hH hv => ?_⟩
  obtain ⟨K', h1, h2, h3⟩ := hH.giveSlice hb
  exact ⟨K', _, _, h1, h2, hcs ▸ h3 off len sz cv hv, of_forceH h⟩
end

end Go.Proofs.Ytoijfbdjlagooaa

/- What has to hold ahead of a piece of code, as a proposition that unfolds. -/
namespace Go.Proofs.Ytoijfbdjlagooaa
open Go Go.RowKit
set_option linter.unusedVariables false
set_option linter.unusedSimpArgs false

structure FnOK (E : Env) (g : FuncId) : Prop where
  ex : ∃ fn, E.P.funcs[g]? = some fn ∧ fn.body.isSome = true ∧ (fn.name == "runtime.NumGoroutine") = false
structure VCall (E : Env) (g : FuncId) (args : List AV) (H : Heap) (R : AV → Heap → Prop) : Prop where
  ok : FnOK E g
  call : ACall E g args H R
structure VRound (E : Env) (b : Nat) (args : List AV) (H : Heap) (R : AV → Heap → Prop) : Prop where
  call : ARound E b args H R
structure VLoop (E : Env) (N : Nat) (rd : Option Nat) (c : Code) (Q : Exit → St → Prop) (s : St) : Prop where
  run : AWp E N rd (.loop c) Q s
structure VDraw (E : Env) (N : Nat) (rd : Option Nat) (id : Nat) (ops : Array Oper) (Q : Exit → St → Prop) (s : St) : Prop where
  run : AWp E N rd (.region id ops true) Q s
structure VRange (E : Env) (N : Nat) (rd : Option Nat) (g : Operand) (ps : Array Tmp) (asg body : Code) (Q : Exit → St → Prop) (s : St) : Prop where
  run : AWp E N rd (.rangeFunc g ps asg body) Q s
structure VCode (E : Env) (N : Nat) (rd : Option Nat) (c : Code) (Q : Exit → St → Prop) (s : St) : Prop where
  run : AWp E N rd c Q s

/-- What comes next: a place where a walk stops. -/
structure VNext (E : Env) (N : Nat) (rd : Option Nat) (c : Code) (Q : Exit → St → Prop) (s : St) : Prop where
  run : AWp E N rd c Q s

def vput (N : Nat) (fr : Fr) (d : Option Tmp) (v : AV) (K : Fr → Prop) : Prop :=
  match d with
  | none => K fr
  | some d => match Nat.blt d N with
    | true => K ((d, v) :: fr)
    | false => False
theorem vput_ok {N : Nat} {fr : Fr} {d : Option Tmp} {v : AV} {K : Fr → Prop} (h : vput N fr d v K) : ∃ fr', putd N fr d v = some fr' ∧ K fr' := by
  unfold vput at h
  split at h
  · exact ⟨_, rfl, h⟩
  · split at h
    · rename_i hd
      have hd : _ < N := Nat.le_of_ble_eq_true hd
      exact ⟨_, by simp only [putd, if_pos hd], h⟩
    · exact h.elim

def vgd (ops : List Oper) (fr : Fr) (g : Option (Nat × Bool)) (A B : Prop) : Prop :=
  match g with
  | none => A
  | some (j, want) => match (ops[j]?).bind (·.dst) with
    | none => B
    | some d => match lk fr d with
      | some (.bool b) => match want with
        | true => VB b A B
        | false => VB b B A
      | some (.tup _) => B
      | _ => False
theorem vgd_ok {ops : Array Oper} {fr : Fr} {o : Oper} {A B : Prop} (h : vgd ops.toList fr o.guard A B) : ∃ t, gd fr ops o = some t ∧ (if t then A else B) := by
  unfold vgd at h
  split at h
  · rename_i hg; exact ⟨true, by simp only [gd, hg], h⟩
  · rename_i j want hg
    rw [Array.getElem?_toList] at h
    split at h
    · rename_i hd; exact ⟨false, by simp only [gd, hg, hd], h⟩
    · rename_i d hd
      split at h
      · rename_i b hb
        refine ⟨b == want, by simp only [gd, hg, hd, hb], ?_⟩
        cases want <;> cases b
        · exact h.f rfl
        · exact h.t rfl
        · exact h.f rfl
        · exact h.t rfl
      · rename_i vs hb
        exact ⟨false, by simp only [gd, hg, hd, hb], h⟩
      · exact h.elim

section
variable {E : Env} {N : Nat} {rd : Option Nat} {Q : Exit → St → Prop} {s : St}

theorem dsl_nil_run {K : Conc} {P : Program} {w : World} {t el : TypeId} {cs : List AV} {len : Nat} {xv yv : Value} {xo yo : Operand} (hu : P.underlying t = some (.slice el)) (hx : VR K (.dsl cs len) xv) (hy : VR K .nsl yv) :
    ∃ b : Bool, (b = true → cs = []) ∧ (do eqGuard .eql t xo yo xv yv; binOp .eql t xv yv : Sem Value).run P w = .ok (.bool b) w ∧ (do eqGuard .neq t xo yo xv yv; binOp .neq t xv yv : Sem Value).run P w = .ok (.bool (!b)) w := by
  simp only [VR] at hx hy
  obtain ⟨a, c, rfl, _, hcr⟩ := hx
  subst hy
  have red : ∀ r, (∀ n, (Op.equalIn (n + 1) t (.slice a len c) (.slice none 0 0)).run P w = .ok r w) → (Op.equal t (.slice a len c) (.slice none 0 0)).run P w = .ok r w := fun r hn => hn 9999
  cases a with
  | none =>
    refine ⟨true, fun _ => ?_, ?_, ?_⟩
    · by_cases h0 : cs = []
      · exact h0
      · obtain ⟨b, o, e, _⟩ := hcr h0
        cases e
    · have := red true (fun n => by simp [Op.equalIn, run_underlying hu])
      simp [eqGuard, binOp, this]
    · have := red true (fun n => by simp [Op.equalIn, run_underlying hu])
      simp [eqGuard, binOp, this]
  | some p =>
    refine ⟨false, fun h => Bool.noConfusion h, ?_, ?_⟩
    · have := red false (fun n => by simp [Op.equalIn, run_underlying hu])
      simp [eqGuard, binOp, this]
    · have := red false (fun n => by simp [Op.equalIn, run_underlying hu])
      simp [eqGuard, binOp, this]

/-- An operation whose result may be given up as data. -/
theorem AIx.opN {ops : Array Oper} {i : Nat} {is : List Nat} {o : Oper} {v : AV} {H' : Heap} (ho : ops[i]? = some o) (hg : gd s.fr ops o = some true) (hop : aop E s.fr s.H o.op o.type = some (v, H'))
    (h : VNew E (fun v H' => ∃ fr', putd N s.fr o.dst v = some fr' ∧ AIx E N rd ops is Q { s with fr := fr', H := H' }) v H') : AIx E N rd ops (i :: is) Q s := by
  intro K0 K ro a w hx0 hr
  obtain ⟨hdef, K1, cv, w', nx, x1, x2, x3, x4, x5⟩ := aop_sound hr.H hr.F hop
  obtain ⟨K2, v2, H2, y1, y2, y3, fr', hp, hq⟩ := h.ok K1 w' cv x4 x5
  have hx := x1.trans y1
  have hF' := putd_sound (hr.F.ext hx) y3 hp
  have hnext : wpOpsIn (fence ro) 0 E.P ops (SPost E K0 N rd ro Q) is (a.put o.dst cv) w' :=
    hq K0 K2 ro _ w' (hx0.trans hx) ⟨y2, hF', by cases o.dst <;> exact hr.D.ext hx, hr.R.ext hx⟩
  simp only [wpOpsIn, ho, gd_sound hr.F hg, if_true]
  refine ⟨about_wide rfl _, ?_⟩
  rw [show (fence ro).round = ro from rfl, Oper.semAt_eq ro a.eval o hdef, x2]
  rcases x3 with rfl | ⟨rfl, rfl⟩
  · exact hnext
  · exact hnext

/-- Is a slice of data nil? If it holds something it is not; else it may be. -/
theorem AIx.nilc {ops : Array Oper} {i : Nat} {is : List Nat} {o : Oper} {op : BinOp} {t yt el : TypeId} {x y : Operand} {cs : List AV} {len : Nat} (ho : ops[i]? = some o) (hg : gd s.fr ops o = some true)
    (hop : o.op = .binOp op t x y yt) (h2 : op = .eql ∨ op = .neq) (hx : ev E s.fr x = some (.dsl cs len)) (hy : ev E s.fr y = some .nsl) (hu : E.un t = some (.slice el))
    (h : ∀ b : Bool, (b = (op == .eql) → cs = []) → ∃ fr', putd N s.fr o.dst (.bool b) = some fr' ∧ AIx E N rd ops is Q { s with fr := fr' }) : AIx E N rd ops (i :: is) Q s := by
  intro K0 K ro a w hx0 hr
  simp only [wpOpsIn, ho, gd_sound hr.F hg, if_true]
  refine ⟨about_wide rfl _, ?_⟩
  obtain ⟨b, hb, r1, r2⟩ := dsl_nil_run (P := E.P) (w := w) (xo := x) (yo := y) (Env.un_ok hu) (ev_sound hr.H hr.F hx) (ev_sound hr.H hr.F hy)
  have key : ∃ b' : Bool, (b' = (op == .eql) → cs = []) ∧ (execOp a.eval o).run E.P w = .ok (.value (.bool b')) w := by
    rcases h2 with rfl | rfl
    · refine ⟨b, fun e => hb (by simpa using e), ?_⟩
      have : (execOp a.eval o).run E.P w = (do pure (Next.value (← (do eqGuard .eql t x y (a.eval x) (a.eval y); binOp .eql t (a.eval x) (a.eval y)))) : Sem Next).run E.P w := by
        obtain ⟨dst, op', ty, pos, after, guard⟩ := o
        dsimp only at hop
        subst hop
        rfl
      rw [this]
      simp only [Sem.run_bind, r1] at r1 ⊢
      simp [r1]
    · refine ⟨!b, fun e => hb (by cases b <;> simp_all), ?_⟩
      have : (execOp a.eval o).run E.P w = (do pure (Next.value (← (do eqGuard .neq t x y (a.eval x) (a.eval y); binOp .neq t (a.eval x) (a.eval y)))) : Sem Next).run E.P w := by
        obtain ⟨dst, op', ty, pos, after, guard⟩ := o
        dsimp only at hop
        subst hop
        rfl
      rw [this]
      simp only [Sem.run_bind, r2] at r2 ⊢
      simp [r2]
  obtain ⟨b', hb', hrun⟩ := key
  obtain ⟨fr', hp, hq⟩ := h b' hb'
  rw [show (fence ro).round = ro from rfl, Oper.semAt_eq ro a.eval o (by intro c; rw [hop]; simp), hrun]
  exact hq K0 K ro _ w hx0 ⟨hr.H, putd_sound (v := .bool b') (cv := .bool b') hr.F rfl hp, by cases o.dst <;> exact hr.D, hr.R⟩
end

/-- One operation. -/
def vopX (E : Env) (m : Bool) (fr : Fr) (H : Heap) (K : AV → Heap → Prop) (op : Op) (ty : TypeId) : Prop :=
  match op with
  | .call { callee := .value f, args, argTypes } => match ev E fr f, evs E fr args.toList with
    | some (.fn (.func g) first cap), some xs => VCall E g (first ++ xs ++ cap) H K
    | some (.yld b), some xs => VRound E b xs H K
    | _, _ => False
  | .call { callee := .builtin .append, args, argTypes } => vopW E fr H (VNew E K) (.call { callee := .builtin .append, args, argTypes }) ty
  | .alloc t => vopW E fr H K (.alloc t) ty
  | .box t x => vopW E fr H K (.box t x) ty
  | .buildSlice t n ps => vopW E fr H (VNew E K) (.buildSlice t n ps) ty
  | .store t a x => vopW E fr H K (.store t a x) ty
  | .makeSlice t l c => vopW E fr H K (.makeSlice t l c) ty
  | .binOp .eql t x y yt => match ev E fr x, ev E fr y, E.un t with
    | some (.dsl cs len), some .nsl, some (.slice _) => ∀ b : Bool, (b = true → cs = []) → K (.bool b) H
    | _, _, _ => vopQ E m fr H (fun v => K v H) (.binOp .eql t x y yt) ty
  | .binOp .neq t x y yt => match ev E fr x, ev E fr y, E.un t with
    | some (.dsl cs len), some .nsl, some (.slice _) => ∀ b : Bool, (b = false → cs = []) → K (.bool b) H
    | _, _, _ => vopQ E m fr H (fun v => K v H) (.binOp .neq t x y yt) ty
  | op => vopQ E m fr H (fun v => K v H) op ty

def vops (E : Env) (m : Bool) (N : Nat) (ops : List Oper) : List Oper → Fr → Heap → (Fr → Heap → Prop) → Prop
  | [], fr, H, K => K fr H
  | o :: r, fr, H, K => vgd ops fr o.guard (vopX E m fr H (fun v H' => vput N fr o.dst v fun fr' => vops E m N ops r fr' H' K) o.op o.type)
      (vput N fr o.dst (.tup []) fun fr' => vops E m N ops r fr' H K)

def vq (E : Env) (m : Bool) (N : Nat) (H : Heap) (ops : List Oper) : List Oper → Fr → (Fr → Prop) → Prop
  | [], fr, K => K fr
  | o :: r, fr, K => vgd ops fr o.guard (vopQ E m fr H (fun v => vput N fr o.dst v fun fr' => vq E m N H ops r fr' K) o.op o.type)
      (vput N fr o.dst (.tup []) fun fr' => vq E m N H ops r fr' K)

def vcode (E : Env) (m : Bool) (N : Nat) (rd : Option Nat) : Code → (Exit → St → Prop) → St → Prop
  | .skip, Q, s => Q .normal s
  | .label _, Q, s => Q .normal s
  | .exit i, Q, s => Q (.exit i) s
  | .ret, Q, s => Q .ret s
  | .seq x y, Q, s => vcode E m N rd x (Then (VNext E N rd y Q) Q) s
  | .cond c x y, Q, s => match ev E s.fr c with
    | some (.bool b) => VB b (vcode E m N rd x Q s) (vcode E m N rd y Q s)
    | _ => False
  | .block id c, Q, s => vcode E m N rd c (InBlock id Q) s
  | .loop c, Q, s => VLoop E N rd c Q s
  | .region id ops true, Q, s => VDraw E N rd id ops Q s
  | .region id ops false, Q, s => vops E m N ops.toList ops.toList s.fr s.H fun fr H => Q .normal ⟨fr, H, s.df⟩
  | .rangeFunc g ps asg body, Q, s => VRange E N rd g ps asg body Q s
  | .scope c, Q, s => VCode E N rd (.scope c) Q s
  | .goto l, Q, s => VCode E N rd (.goto l) Q s
  | .refuse w, Q, s => False

section
variable {E : Env} {m : Bool} {N : Nat} {rd : Option Nat} {Q : Exit → St → Prop} {s : St} {fr : Fr} {H : Heap}

theorem vopX_ok {K : AV → Heap → Prop} {op : Op} {ty : TypeId} (h : vopX E m fr H K op ty) :
    (∃ r, aop E fr H op ty = some r ∧ VNew E K r.1 r.2) ∨
    (∃ f args ts g first cap xs, op = .call { callee := .value f, args := args, argTypes := ts } ∧ ev E fr f = some (.fn (.func g) first cap) ∧ evs E fr args.toList = some xs ∧ VCall E g (first ++ xs ++ cap) H K) ∨
    (∃ f args ts b xs, op = .call { callee := .value f, args := args, argTypes := ts } ∧ ev E fr f = some (.yld b) ∧ evs E fr args.toList = some xs ∧ VRound E b xs H K) ∨
    (∃ bo t x y yt cs len el, op = .binOp bo t x y yt ∧ (bo = .eql ∨ bo = .neq) ∧ ev E fr x = some (.dsl cs len) ∧ ev E fr y = some .nsl ∧ E.un t = some (.slice el) ∧ ∀ b : Bool, (b = (bo == .eql) → cs = []) → K (.bool b) H) := by
  have keyN : ∀ {op : Op}, aopQ E fr H op ty = none → vopW E fr H (VNew E K) op ty → ∃ r, aop E fr H op ty = some r ∧ VNew E K r.1 r.2 := by
    intro op hq hw
    obtain ⟨r, h1, h2⟩ := vopW_ok hw
    exact ⟨r, by simp only [aop, hq, h1], h2⟩
  have keyW : ∀ {op : Op}, aopQ E fr H op ty = none → vopW E fr H K op ty → ∃ r, aop E fr H op ty = some r ∧ VNew E K r.1 r.2 := by
    intro op hq hw
    obtain ⟨r, h1, h2⟩ := vopW_ok hw
    exact ⟨r, by simp only [aop, hq, h1], .keep h2⟩
  unfold vopX at h
  split at h
  · rename_i f args ts
    split at h
    · rename_i g first cap xs h1 h2
      exact .inr (.inl ⟨f, args, ts, g, first, cap, xs, rfl, h1, h2, h⟩)
    · rename_i b xs h1 h2
      exact .inr (.inr (.inl ⟨f, args, ts, b, xs, rfl, h1, h2, h⟩))
    · exact h.elim
  · refine .inl (keyN ?_ h)
    simp only [aopQ, abuiltin]
    split <;> rfl
  · exact .inl (keyW rfl h)
  · exact .inl (keyW rfl h)
  · exact .inl (keyN rfl h)
  · exact .inl (keyW rfl h)
  · exact .inl (keyW rfl h)
  · split at h
    · rename_i cs len el h1 h2 h3
      exact .inr (.inr (.inr ⟨_, _, _, _, _, cs, len, el, rfl, .inl rfl, h1, h2, h3, fun b hb => h b (fun e => hb (by rw [e]; rfl))⟩))
    · obtain ⟨v, h1, h2⟩ := vopQ_ok h
      exact .inl ⟨(v, H), by simp only [aop, h1], .keep h2⟩
  · split at h
    · rename_i cs len el h1 h2 h3
      exact .inr (.inr (.inr ⟨_, _, _, _, _, cs, len, el, rfl, .inr rfl, h1, h2, h3, fun b hb => h b (fun e => hb (by rw [e]; rfl))⟩))
    · obtain ⟨v, h1, h2⟩ := vopQ_ok h
      exact .inl ⟨(v, H), by simp only [aop, h1], .keep h2⟩
  · obtain ⟨v, h1, h2⟩ := vopQ_ok h
    exact .inl ⟨(v, H), by simp only [aop, h1], .keep h2⟩

theorem vops_ok {ops : Array Oper} : ∀ {l : List Oper} {i : Nat} {fr : Fr} {H : Heap} {df : List Nat}, l = ops.toList.drop i → vops E m N ops.toList l fr H (fun fr H => Q .normal ⟨fr, H, df⟩) →
    AIx E N rd ops (List.range' i l.length) Q ⟨fr, H, df⟩
  | [], i, fr, H, df, hl, h => AIx.nil h
  | o :: r, i, fr, H, df, hl, h => by
    have hi : i < ops.toList.length := by
      apply Nat.lt_of_not_le
      intro hle
      rw [List.drop_eq_nil_of_le hle] at hl
      cases hl
    have hd := List.drop_eq_getElem_cons hi
    rw [← hl] at hd
    have ho : ops[i]? = some o := by
      rw [← Array.getElem?_toList, List.getElem?_eq_getElem hi]
      exact congrArg some (List.cons.inj hd).1.symm
    have hr : r = ops.toList.drop (i + 1) := (List.cons.inj hd).2
    rw [List.length_cons, List.range'_succ]
    simp only [vops] at h
    obtain ⟨t, hg, h⟩ := vgd_ok h
    cases t with
    | true =>
      simp only [if_true] at h
      rcases vopX_ok h with ⟨r', h1, h2⟩ | ⟨f, args, ts, g, first, cap, xs, hop, hf, hxs, hc⟩ | ⟨f, args, ts, b, xs, hop, hf, hxs, hc⟩ | ⟨bo, t, x, y, yt, cs, len, el, hop, hbo, hx, hy, hu, hc⟩
      · refine AIx.opN (s := ⟨fr, H, df⟩) ho hg h1 ⟨fun K w cv hH hv => ?_⟩
        obtain ⟨K', v', H', x1, x2, x3, x4⟩ := h2.ok K w cv hH hv
        obtain ⟨fr', h3, h4⟩ := vput_ok x4
        exact ⟨K', v', H', x1, x2, x3, fr', h3, vops_ok hr h4⟩
      · obtain ⟨fn, hfn, hb, hn⟩ := hc.ok.ex
        exact AIx.call (s := ⟨fr, H, df⟩) ho hg hop hf hxs hfn hb hn (hc.call.mono fun v H' hk => by
          obtain ⟨fr', h3, h4⟩ := vput_ok hk
          exact ⟨fr', h3, vops_ok hr h4⟩)
      · exact AIx.yield (s := ⟨fr, H, df⟩) ho hg hop hf hxs (hc.call.mono fun v H' hk => by
          obtain ⟨fr', h3, h4⟩ := vput_ok hk
          exact ⟨fr', h3, vops_ok hr h4⟩)
      · exact AIx.nilc (s := ⟨fr, H, df⟩) ho hg hop hbo hx hy hu fun b hb => by
          obtain ⟨fr', h3, h4⟩ := vput_ok (hc b hb)
          exact ⟨fr', h3, vops_ok hr h4⟩
    | false =>
      simp only [Bool.false_eq_true, if_false] at h
      obtain ⟨fr', h3, h4⟩ := vput_ok h
      exact AIx.pass (s := ⟨fr, H, df⟩) ho hg h3 (vops_ok hr h4)

theorem vcode_ok : ∀ {c : Code} {Q : Exit → St → Prop} {s : St}, vcode E m N rd c Q s → AWp E N rd c Q s
  | .skip, Q, s, h => AWp.skip h
  | .label _, Q, s, h => AWp.label h
  | .exit i, Q, s, h => AWp.exit h
  | .ret, Q, s, h => AWp.ret h
  | .seq x y, Q, s, h => AWp.seq ((vcode_ok (c := x) h).mono fun e s' q => by
      cases e with
      | normal => exact VNext.run q
      | _ => exact q)
  | .cond c x y, Q, s, h => by
    simp only [vcode] at h
    split at h
    · rename_i b hb
      cases b with
      | true => exact AWp.cond hb (vcode_ok (h.t rfl))
      | false => exact AWp.cond hb (vcode_ok (h.f rfl))
    · exact h.elim
  | .block id c, Q, s, h => AWp.block (vcode_ok (c := c) h)
  | .loop c, Q, s, h => VLoop.run h
  | .region id ops true, Q, s, h => VDraw.run h
  | .region id ops false, Q, s, h => by
    refine AWp.region ?_
    have := vops_ok (ops := ops) (Q := Q) (rd := rd) (i := 0) (by simp) h
    rw [List.range_eq_range']
    simpa using this
  | .rangeFunc g ps asg body, Q, s, h => VRange.run h
  | .scope c, Q, s, h => VCode.run h
  | .goto l, Q, s, h => VCode.run h
  | .refuse w, Q, s, h => h.elim

theorem vq_ok {ops : Array Oper} {K : Fr → Prop} : ∀ {l : List Oper} {fr : Fr}, vq E m N H ops.toList l fr K → ∃ fr', aq E N ops l fr H = some fr' ∧ K fr'
  | [], fr, h => ⟨fr, rfl, h⟩
  | o :: r, fr, h => by
    simp only [vq] at h
    obtain ⟨t, hg, h⟩ := vgd_ok h
    cases t with
    | true =>
      simp only [if_true] at h
      obtain ⟨v, h1, h2⟩ := vopQ_ok h
      obtain ⟨fr', h3, h4⟩ := vput_ok h2
      obtain ⟨fr2, h5, h6⟩ := vq_ok h4
      exact ⟨fr2, by simp only [aq, hg, h1, h3, h5], h6⟩
    | false =>
      simp only [Bool.false_eq_true, if_false] at h
      obtain ⟨fr', h3, h4⟩ := vput_ok h
      obtain ⟨fr2, h5, h6⟩ := vq_ok h4
      exact ⟨fr2, by simp only [aq, hg, h3, h5], h6⟩

def quietOps (ops : Array Oper) : Bool := ops.toList.all fun o => match o.op with
  | .store _ _ _ | .alloc _ | .box _ _ | .makeSlice _ _ _ | .buildSlice _ _ _ | .call { callee := .builtin .append, args := _, argTypes := _ } | .call { callee := .value _, args := _, argTypes := _ } => false
  | _ => true

/-- A region that draws its order, all of it quiet. -/
theorem VDraw.q (m : Bool) {id : Nat} {ops : Array Oper} (hqu : quietOps ops = true) (hm : E.P.follows .mixedOrders = true) (hB : Region.lexB .any ops = true) (hd : noDefer ops = true)
    (h : vq E m N s.H ops.toList ops.toList s.fr fun fr => Q .normal ⟨fr, s.H, s.df⟩) : VDraw E N rd id ops Q s := by
  obtain ⟨fr', h1, h2⟩ := vq_ok h
  exact ⟨AWp.drawQ hm hB hd h1 h2⟩

/-- A quiet head, then the rest in order. -/
theorem VDraw.t (m : Bool) (n : Nat) {id : Nat} {ops : Array Oper} (hm : E.P.follows .mixedOrders = true) (hB : Region.lexTailB .any ops n = true) (hd : noDefer ops = true)
    (h : vq E m N s.H ops.toList (ops.toList.take n) s.fr fun fr => vops E m N ops.toList (ops.toList.drop n) fr s.H fun fr H => Q .normal ⟨fr, H, s.df⟩) : VDraw E N rd id ops Q s := by
  obtain ⟨fr', h1, h2⟩ := vq_ok h
  refine ⟨AWp.drawT n hm hB hd h1 ?_⟩
  have := vops_ok (ops := ops) (Q := Q) (rd := rd) (i := n) rfl h2
  simpa using this

/-! ### Functions -/
def vret (E : Env) (fn : Func) (R : AV → Heap → Prop) : Exit → St → Prop
  | .normal, s | .ret, s => match gone s.df s.H with
    | some H2 => match ares E s.fr H2 fn.results.toList with
      | some v => v.force fun v' => forceH H2 (R v')
      | none => False
    | none => False
  | _, _ => False

theorem vret_ok {fn : Func} {R : AV → Heap → Prop} {e : Exit} (h : vret E fn R e s) : RetPost E fn R e s := by
  unfold vret at h
  have key : ∀ {X : Prop}, (match gone s.df s.H with
    | some H2 => match ares E s.fr H2 fn.results.toList with
      | some v => v.force fun v' => forceH H2 (R v')
      | none => False
    | none => False) → ∃ H2 v, gone s.df s.H = some H2 ∧ ares E s.fr H2 fn.results.toList = some v ∧ R v H2 := by
    intro X h
    split at h
    · rename_i H2 h1
      split at h
      · rename_i v h2
        exact ⟨H2, v, h1, h2, of_forceH (AV.of_force (Q := fun v' => forceH H2 (R v')) h)⟩
      · exact h.elim
    · exact h.elim
  split at h
  · exact key (X := True) h
  · exact key (X := True) h
  · exact h.elim

theorem VCall.of_body (m : Bool) {g : FuncId} {fn : Func} {c : Code} {args : List AV} {H : Heap} {R : AV → Heap → Prop} (hf : E.P.funcs[g]? = some fn) (hb : fn.body = some c) (hname : (fn.name == "runtime.NumGoroutine") = false)
    (hn : Nat.ble args.length fn.ntmps = true) (h : vcode E m fn.ntmps none c (vret E fn R) ⟨mkFr 0 args, H, []⟩) : VCall E g args H R :=
  ⟨⟨fn, hf, by rw [hb]; rfl, hname⟩, ACall.of_body hf hb (Nat.le_of_ble_eq_true hn) ((vcode_ok h).mono fun e s q => vret_ok q)⟩

theorem VCall.mono {g : FuncId} {args : List AV} {H : Heap} {R R' : AV → Heap → Prop} (hq : ∀ v H, R v H → R' v H) (h : VCall E g args H R) : VCall E g args H R' := ⟨h.ok, h.call.mono hq⟩

/-! ### Loops -/
def vsub : Fr → Fr → Prop
  | [], _ => True
  | (k, v) :: r, fr => lk fr k = some v ∧ vsub r fr
theorem vsub_ok : ∀ {fr0 fr : Fr}, vsub fr0 fr → ∀ k v, lk fr0 k = some v → lk fr k = some v
  | [], fr, h, k, v, e => by cases e
  | (k0, v0) :: r, fr, h, k, v, e => by
    simp only [lk] at e
    split at e
    · rename_i hk; subst hk; cases e; exact h.1
    · exact vsub_ok h.2 k v e

theorem AWp.forget {c : Code} {fr0 : Fr} (h : AWp E N rd c Q ⟨fr0, s.H, s.df⟩) (hs : vsub fr0 s.fr) : AWp E N rd c Q s :=
  fun K ro a w hr => h K ro a w ⟨hr.H, hr.F.sub (vsub_ok hs), hr.D, hr.R⟩

structure Meets (s0 s : St) : Prop where
  fr : vsub s0.fr s.fr
  H : s.H = s0.H
  df : s.df = s0.df

/-- On with the walk. -/
theorem VNext.go (m : Bool) {c : Code} (h : vcode E m N rd c Q s) : VNext E N rd c Q s := ⟨vcode_ok h⟩
/-- On with the walk, from a state that is said anew. -/
theorem VNext.at_ (m : Bool) {c : Code} (s0 : St) (hm : Meets s0 s) (h : vcode E m N rd c Q s0) : VNext E N rd c Q s := by
  have h1 := vcode_ok h
  have e : s0 = ⟨s0.fr, s.H, s.df⟩ := by rw [hm.H, hm.df]
  rw [e] at h1
  exact ⟨h1.forget hm.fr⟩

theorem VLoop.ix {c : Code} {ι : Type} (m : Bool) (st : ι → St) (inv : ι → Prop) (μ : ι → Nat) (x0 : ι) (h0 : inv x0) (hm : Meets (st x0) s)
    (round : ∀ x, inv x → vcode E m N rd c (Then (fun s' => ∃ y, inv y ∧ μ y < μ x ∧ Meets (st y) s') Q) (st x)) : VLoop E N rd c Q s := by
  refine ⟨AWp.loop (fun j s' => ∃ x, inv x ∧ μ x = j ∧ Meets (st x) s') (n0 := μ x0) ⟨x0, h0, rfl, hm⟩ ?_⟩
  rintro j s' ⟨x, hx, rfl, hmx⟩
  have h1 := vcode_ok (round x hx)
  have h2 : AWp E N rd c (Then (fun s' => ∃ k, k < μ x ∧ ∃ y, inv y ∧ μ y = k ∧ Meets (st y) s') Q) (st x) := h1.mono fun e s2 q => by
    cases e with
    | normal => obtain ⟨y, hy, hlt, hmy⟩ := q; exact ⟨μ y, hlt, y, hy, rfl, hmy⟩
    | _ => exact q
  have e : st x = ⟨(st x).fr, s'.H, s'.df⟩ := by rw [hmx.H, hmx.df]
  rw [e] at h2
  exact h2.forget hmx.fr

end

end Go.Proofs.Ytoijfbdjlagooaa

/- A call by itself: its arguments are data, what it made becomes data. -/
namespace Go.Proofs.Ytoijfbdjlagooaa
open Go Go.RowKit
set_option linter.unusedVariables false
set_option linter.unusedSimpArgs false

section
variable {K K' : Conc} {n : Nat}

mutual
theorem VR.move (hi : ∀ b o v, K.imm b o = some v → K'.imm b o = some v) (hb : ∀ (b : Nat) (i : BI), b < n → K.blk[b]? = some i → K'.blk[b]? = some i) : ∀ (a : AV) (v : Value), a.low n → VR K a v → VR K' a v
  | .bool b, v, hl, h => h
  | .int k n, v, hl, h => h
  | .str s, v, hl, h => h
  | .nptr, v, hl, h => h
  | .ptr b ver off, v, hl, h => by
    simp only [VR] at h ⊢
    obtain ⟨h1, i, e, l, s⟩ := h
    exact ⟨h1, i, hb b i hl e, l, s⟩
  | .dptr cs, v, hl, h => by
    simp only [VR] at h ⊢
    obtain ⟨b, o, e, c⟩ := h
    exact ⟨b, o, e, CR.move hi hb cs b o hl c⟩
  | .nsl, v, hl, h => h
  | .dsl cs len, v, hl, h => by
    simp only [VR] at h ⊢
    obtain ⟨a, c, e, l, f⟩ := h
    exact ⟨a, c, e, l, fun hne => let ⟨b, o, ea, hc⟩ := f hne; ⟨b, o, ea, CR.move hi hb cs b o hl hc⟩⟩
  | .osl b ver off len sz, v, hl, h => by
    simp only [VR] at h ⊢
    obtain ⟨h1, i, e, l, s⟩ := h
    exact ⟨h1, i, hb b i hl e, l, s⟩
  | .nmap, v, hl, h => h
  | .mapr b, v, hl, h => by
    simp only [VR] at h ⊢
    obtain ⟨h1, i, e, s⟩ := h
    exact ⟨h1, i, hb b i hl e, s⟩
  | .fn f first captured, v, hl, h => by
    simp only [VR] at h ⊢
    obtain ⟨hy, fs, cs, e, h1, h2⟩ := h
    exact ⟨hy, fs, cs, e, VRL.move hi hb first _ hl.1 h1, VRL.move hi hb captured _ hl.2 h2⟩
  | .yld b, v, hl, h => by
    simp only [VR] at h ⊢
    obtain ⟨h1, i, e, s⟩ := h
    exact ⟨h1, i, hb b i hl e, s⟩
  | .nfn, v, hl, h => h
  | .iface t x, v, hl, h => by
    simp only [VR] at h ⊢
    obtain ⟨u, e, hu⟩ := h
    exact ⟨u, e, VR.move hi hb x u hl hu⟩
  | .niface, v, hl, h => h
  | .agg cs, v, hl, h => by
    simp only [VR] at h ⊢
    obtain ⟨ho, us, e, hu⟩ := h
    exact ⟨ho, us, e, VRL.move hi hb cs _ hl hu⟩
  | .tup vs, v, hl, h => by
    simp only [VR] at h ⊢
    obtain ⟨us, e, hu⟩ := h
    exact ⟨us, e, VRL.move hi hb vs _ hl hu⟩
theorem VRL.move (hi : ∀ b o v, K.imm b o = some v → K'.imm b o = some v) (hb : ∀ (b : Nat) (i : BI), b < n → K.blk[b]? = some i → K'.blk[b]? = some i) : ∀ (a : List AV) (l : List Value), lowL n a → VRL K a l → VRL K' a l
  | [], l, hl, h => h
  | c :: cs, l, hl, h => by
    simp only [VRL] at h ⊢
    obtain ⟨u, us, e, h1, h2⟩ := h
    exact ⟨u, us, e, VR.move hi hb c u hl.1 h1, VRL.move hi hb cs us hl.2 h2⟩
theorem CR.move (hi : ∀ b o v, K.imm b o = some v → K'.imm b o = some v) (hb : ∀ (b : Nat) (i : BI), b < n → K.blk[b]? = some i → K'.blk[b]? = some i) : ∀ (a : List AV) (b o : Nat), lowL n a → CR K a b o → CR K' a b o
  | [], b, o, hl, h => h
  | c :: cs, b, o, hl, h => by
    simp only [CR] at h ⊢
    obtain ⟨h1, ⟨u, e, hu⟩, h2⟩ := h
    exact ⟨h1, ⟨u, hi _ _ _ e, VR.move hi hb c u hl.1 hu⟩, CR.move hi hb cs b (o + 1) hl.2 h2⟩
end
end

/-! ### What was written becomes data; blocks that are kept get new numbers: the j-th of σ becomes n + j -/
mutual
inductive Fz (H : Heap) (n : Nat) (σ : List Nat) : AV → AV → Prop
  | same {v v' : AV} (e : v = v') (h : v'.low n) : Fz H n σ v v'
  | nsl : Fz H n σ .nsl (.dsl [] 0)
  | kptr {b b' ver ver' off j : Nat} (hj : σ[j]? = some b) (eb : n + j = b') (ev : ver = ver') : Fz H n σ (.ptr b ver off) (.ptr b' ver' off)
  | kosl {b b' ver ver' off len len' sz j : Nat} (hj : σ[j]? = some b) (eb : n + j = b') (ev : ver = ver') (e : len = len') : Fz H n σ (.osl b ver off len sz) (.osl b' ver' off len' sz)
  | kyld {b b' j : Nat} (hj : σ[j]? = some b) (eb : n + j = b') : Fz H n σ (.yld b) (.yld b')
  | ptr {b ver off : Nat} {e : TypeId} {cs cs' : List AV} (hn : n ≤ b) (hs : b ∉ σ) (h : H[b]? = some (.cells ver e cs)) (hc : FzL H n σ (cs.drop off) cs') : Fz H n σ (.ptr b ver off) (.dptr cs')
  | osl {b ver off len sz : Nat} {e : TypeId} {cs cs' : List AV} (hn : n ≤ b) (hs : b ∉ σ) (h : H[b]? = some (.cells ver e cs)) (hc : FzL H n σ ((cs.drop off).take (len * sz)) cs') : Fz H n σ (.osl b ver off len sz) (.dsl cs' len)
  | dptr {cs cs' : List AV} (h : FzL H n σ cs cs') : Fz H n σ (.dptr cs) (.dptr cs')
  | dsl {cs cs' : List AV} {len : Nat} (h : FzL H n σ cs cs') : Fz H n σ (.dsl cs len) (.dsl cs' len)
  | agg {cs cs' : List AV} (h : FzL H n σ cs cs') : Fz H n σ (.agg cs) (.agg cs')
  | tup {cs cs' : List AV} (h : FzL H n σ cs cs') : Fz H n σ (.tup cs) (.tup cs')
  | iface {t : TypeId} {v v' : AV} (h : Fz H n σ v v') : Fz H n σ (.iface t v) (.iface t v')
  | fn {f : Fn} {a a' b b' : List AV} (ha : FzL H n σ a a') (hb : FzL H n σ b b') : Fz H n σ (.fn f a b) (.fn f a' b')
inductive FzL (H : Heap) (n : Nat) (σ : List Nat) : List AV → List AV → Prop
  | nil : FzL H n σ [] []
  | cons {c c' : AV} {cs cs' : List AV} (h : Fz H n σ c c') (hs : FzL H n σ cs cs') : FzL H n σ (c :: cs) (c' :: cs')
end

theorem Fz.one {H : Heap} {n : Nat} {σ : List Nat} {v v' : AV} (h : Fz H n σ v v') : v'.one = v.one := by
  cases h <;> first | rfl | (subst_vars; rfl)
theorem FzL.all : ∀ {H : Heap} {n : Nat} {σ : List Nat} {cs cs' : List AV}, FzL H n σ cs cs' → cs'.all AV.one = cs.all AV.one
  | _, _, _, _, _, .nil => rfl
  | _, _, _, _, _, .cons h hs => by simp only [List.all_cons, h.one, FzL.all hs]
theorem FzL.refl {H : Heap} {n : Nat} {σ : List Nat} : ∀ {cs : List AV}, lowL n cs → FzL H n σ cs cs
  | [], _ => .nil
  | c :: cs, h => .cons (.same rfl h.1) (FzL.refl h.2)
theorem FzL.same {H : Heap} {n : Nat} {σ : List Nat} {cs cs' : List AV} (e : cs = cs') (h : lowL n cs') : FzL H n σ cs cs' := by subst e; exact FzL.refl h

section
variable {E : Env} {K K' : Conc} {H : Heap} {w : World} {n : Nat} {σ : List Nat}

/-- What the new view has to keep. -/
structure FzOK (K K' : Conc) (w : World) (n : Nat) (σ : List Nat) : Prop where
  imm : ∀ b o v, K.imm b o = some v → K'.imm b o = some v
  blk : ∀ (b : Nat) (i : BI), b < n → K.blk[b]? = some i → K'.blk[b]? = some i
  keep : ∀ (j b : Nat) (i : BI), σ[j]? = some b → K.blk[b]? = some i → K'.blk[n + j]? = some i
  frz : ∀ (b : Nat) (i : BI) (o : Nat) (v : Value), n ≤ b → b ∉ σ → K.blk[b]? = some i → w.cell? ⟨i.c, o, none⟩ = some v → K'.imm i.c o = some v

mutual
theorem Fz.sound (hH : HR E K H w) (hk : FzOK K K' w n σ) : ∀ {a a' : AV} {v : Value}, Fz H n σ a a' → VR K a v → VR K' a' v
  | _, _, v, .same e hl, h => by subst e; exact VR.move hk.imm hk.blk _ v hl h
  | .ptr b ver off, _, v, .kptr (j := j) hj eb ev, h => by
    subst eb
    subst ev
    simp only [VR] at h ⊢
    obtain ⟨h1, i, e, l, s⟩ := h
    exact ⟨h1, i, hk.keep j b i hj e, l, s⟩
  | .osl b ver off len sz, _, v, .kosl (j := j) hj eb ev el, h => by
    subst eb
    subst ev
    subst el
    simp only [VR] at h ⊢
    obtain ⟨h1, i, e, l, s⟩ := h
    exact ⟨h1, i, hk.keep j b i hj e, l, s⟩
  | .yld b, _, v, .kyld (j := j) hj eb, h => by
    subst eb
    simp only [VR] at h ⊢
    obtain ⟨h1, i, e, s⟩ := h
    exact ⟨h1, i, hk.keep j b i hj e, s⟩
  | _, _, v, .nsl, h => by
    simp only [VR] at h ⊢
    exact ⟨none, 0, h, Nat.le_refl _, fun hne => absurd rfl hne⟩
  | .ptr b ver off, _, v, .ptr (e := e) (cs := cs) (cs' := cs') hn hs hb hc, h => by
    obtain ⟨i, hi, ho⟩ := hH.info hb
    obtain ⟨hv, arr, h1, h2, h3, h4, h5⟩ := ho
    have := VR.ptr_eq h hi hv
    subst this
    simp only [VR]
    refine ⟨i.c, off, rfl, CR.of (FzL.sound hH hk hc (VRL.drop off h5)) (fun j u hj => ?_) (by rw [hc.all]; exact List.all_eq_true.2 fun x hx => List.all_eq_true.1 h3 x (List.mem_of_mem_drop hx))⟩
    refine hk.frz b i (off + j) u hn hs hi ?_
    rw [cell_of_arr h1]
    rw [List.getElem?_drop, List.getElem?_take] at hj
    split at hj
    · simpa using hj
    · cases hj
  | .osl b ver off len sz, _, v, .osl (e := e) (cs := cs) (cs' := cs') hn hs hb hc, h => by
    obtain ⟨i, hi, ho⟩ := hH.info hb
    obtain ⟨hv, arr, h1, h2, h3, h4, h5⟩ := ho
    obtain ⟨cap, e1, e2, e3, e4⟩ := VR.osl_eq h hi hv
    subst e1
    simp only [VR]
    refine ⟨_, cap, rfl, e2, fun hne => ⟨i.c, off, rfl, CR.of (FzL.sound hH hk hc (VRL.take _ (VRL.drop off h5))) (fun j u hj => ?_) (by rw [hc.all]; exact List.all_eq_true.2 fun x hx => List.all_eq_true.1 h3 x (List.mem_of_mem_drop (List.mem_of_mem_take hx)))⟩⟩
    refine hk.frz b i (off + j) u hn hs hi ?_
    rw [cell_of_arr h1]
    rw [List.getElem?_take] at hj
    split at hj
    · rw [List.getElem?_drop, List.getElem?_take] at hj
      split at hj
      · simpa using hj
      · cases hj
    · cases hj
  | .dptr cs, _, v, .dptr (cs' := cs') hc, h => by
    simp only [VR] at h ⊢
    obtain ⟨b, o, e, c⟩ := h
    exact ⟨b, o, e, FzL.soundC hH hk hc c⟩
  | .dsl cs len, _, v, .dsl (cs' := cs') hc, h => by
    simp only [VR] at h ⊢
    obtain ⟨a, c, e, l, f⟩ := h
    refine ⟨a, c, e, l, fun hne => ?_⟩
    have hne' : cs ≠ [] := by rintro rfl; cases hc; exact hne rfl
    obtain ⟨b, o, ea, hcr⟩ := f hne'
    exact ⟨b, o, ea, FzL.soundC hH hk hc hcr⟩
  | .agg cs, _, v, .agg (cs' := cs') hc, h => by
    simp only [VR] at h ⊢
    obtain ⟨ho, us, e, hu⟩ := h
    exact ⟨by rw [hc.all]; exact ho, us, e, FzL.sound hH hk hc hu⟩
  | .tup cs, _, v, .tup (cs' := cs') hc, h => by
    simp only [VR] at h ⊢
    obtain ⟨us, e, hu⟩ := h
    exact ⟨us, e, FzL.sound hH hk hc hu⟩
  | .iface t x, _, v, .iface hx, h => by
    simp only [VR] at h ⊢
    obtain ⟨u, e, hu⟩ := h
    exact ⟨u, e, Fz.sound hH hk hx hu⟩
  | .fn f a b, _, v, .fn ha hb, h => by
    simp only [VR] at h ⊢
    obtain ⟨hy, fs, cs, e, h1, h2⟩ := h
    exact ⟨hy, fs, cs, e, FzL.sound hH hk ha h1, FzL.sound hH hk hb h2⟩
theorem FzL.sound (hH : HR E K H w) (hk : FzOK K K' w n σ) : ∀ {a a' : List AV} {v : List Value}, FzL H n σ a a' → VRL K a v → VRL K' a' v
  | _, _, v, .nil, h => h
  | _, _, v, .cons hc hs, h => by
    simp only [VRL] at h ⊢
    obtain ⟨u, us, e, h1, h2⟩ := h
    exact ⟨u, us, e, Fz.sound hH hk hc h1, FzL.sound hH hk hs h2⟩
theorem FzL.soundC (hH : HR E K H w) (hk : FzOK K K' w n σ) : ∀ {a a' : List AV} {b o : Nat}, FzL H n σ a a' → CR K a b o → CR K' a' b o
  | _, _, b, o, .nil, h => h
  | _, _, b, o, .cons hc hs, h => by
    simp only [CR] at h ⊢
    obtain ⟨h1, ⟨u, e, hu⟩, h2⟩ := h
    exact ⟨by rw [hc.one]; exact h1, ⟨u, hk.imm _ _ _ e, Fz.sound hH hk hc hu⟩, FzL.soundC hH hk hs h2⟩
end

/-- The view of a call by itself. -/
def Conc.alone (imm : Nat → Nat → Option Value) (w : World) : Conc := ⟨imm, [], w.heap.size, w⟩

theorem HR.alone (hH : HR E K H w) {imm : Nat → Nat → Option Value} (h1 : ∀ c o v, K.imm c o = some v → imm c o = some v) (h2 : ∀ c o v, imm c o = some v → w.cell? ⟨c, o, none⟩ = some v) :
    HR E (Conc.alone imm w) [] w :=
  ⟨rfl, fun b o i e => by simp at e, fun b i e => by simp [Conc.alone] at e, fun b b' i i' e => by simp [Conc.alone] at e, fun b i o ob eo ek e => by simp [Conc.alone] at e, h2, Below.refl _ _, Nat.le_refl _,
    fun g cs e => CR.move (n := 0) h1 (fun b i hb => absurd hb (Nat.not_lt_zero _)) cs g 0 (E.G_low g cs e) (hH.glob g cs e)⟩

/-- The view after it: what it made is data. -/
def Conc.after (K : Conc) (w w' : World) : Conc :=
  { K with imm := fun c o => match K.imm c o with
    | some v => some v
    | none => if w.heap.size ≤ c then w'.cell? ⟨c, o, none⟩ else none }

theorem Conc.after_imm {w' : World} {c o : Nat} {v : Value} (h : K.imm c o = some v) : (K.after w w').imm c o = some v := by simp [Conc.after, h]

theorem Ext.after (hH : HR E K H w) (w' : World) : Ext K (K.after w w') := by
  refine ⟨fun c o v h => Conc.after_imm h, Nat.le_refl _, fun b i e => ⟨i, e, Nat.le_refl _, fun _ => rfl⟩, rfl, rfl, fun c o v e => ?_⟩
  simp only [Conc.after] at e
  split at e
  · rename_i u hu; cases e; exact .inl hu
  · split at e
    · rename_i hc
      refine .inr (Nat.le_trans (Nat.le_trans hH.hB hH.below.size) hc)
    · cases e

theorem HR.after (hH : HR E K H w) {w' : World} (hb : Below w.heap.size w w') : HR E (K.after w w') H w' := by
  have hx := Ext.after hH w'
  refine ⟨hH.len, fun b o i e e' => (hH.obj b o i e e').mono hx (hb.block _ (hH.at_ e')), hH.low, hH.inj, fun b i o ob eo ek e => ?_, fun c o v e => ?_, hH.below.trans (hb.mono (Nat.le_trans hH.hB hH.below.size)), hH.hB, fun g cs e => CR.ext hx _ _ _ (hH.glob g cs e)⟩
  · have e : K.blk[b]? = some i := e
    have h1 := hH.off b i o ob eo ek e
    have h2 := hH.at_ e
    simp only [Conc.after, h1]
    rw [if_neg (by omega)]
  · simp only [Conc.after] at e
    split at e
    · rename_i u hu
      cases e
      have hl := hH.imm_lt hu
      rw [World.cell?_eq_of_block (hb.block c hl)]
      exact hH.imm c o _ hu
    · split at e
      · exact e
      · cases e

/-- A call whose arguments are data. -/
theorem VCall.isolate {g : FuncId} {args : List AV} {R Q : AV → Heap → Prop} (h : VCall E g args [] R) (hl : lowL 0 args) (hR : ∀ v0 H0, R v0 H0 → ∃ v', Fz H0 0 [] v0 v' ∧ Q v' H) : VCall E g args H Q := by
  refine ⟨h.ok, fun K cargs w hH hv => ?_⟩
  have hA := hH.alone (imm := K.imm) (fun _ _ _ h => h) hH.imm
  have hv0 : VRL (Conc.alone K.imm w) args cargs := VRL.move (K := K) (K' := Conc.alone K.imm w) (n := 0) (fun _ _ _ h => h) (fun b i hb => absurd hb (Nat.not_lt_zero _)) args cargs hl hv
  refine (h.call _ cargs w hA hv0).mono fun e w' q => ?_
  obtain ⟨v0, cv, K0, H0, rfl, hx, hH0, hr, hq⟩ := q
  obtain ⟨v', hz, hq'⟩ := hR v0 H0 hq
  have hB : K0.B = w.heap.size := hx.hB
  have hw0 : K0.w0 = w := hx.hw
  have hbel : Below w.heap.size w w' := by have := hH0.below; rw [hB, hw0] at this; exact this
  refine ⟨v', cv, K.after w w', H, rfl, Ext.after hH w', hH.after hbel, hz.sound hH0 (K' := K.after w w') ⟨fun c o v e => ?_, fun b i hb => absurd hb (Nat.not_lt_zero _), fun j b i hj => by simp at hj, fun b i o v _ _ hb hc => ?_⟩ hr, hq'⟩
  · rcases hx.new c o v e with e' | e'
    · exact Conc.after_imm (K := K) (w := w) e'
    · have e' : w.heap.size ≤ c := e'
      have h1 := hH0.imm c o v e
      simp only [Conc.after]
      split
      · rename_i u hu
        have hlt := hH.imm_lt hu
        omega
      · rw [if_pos e']; exact h1
  · have h2 := hH0.low b i hb
    rw [hB] at h2
    simp only [Conc.after]
    split
    · rename_i u hu
      have hlt := hH.imm_lt hu
      omega
    · rw [if_pos h2]; exact hc

/-- Values that name no memory at all. -/
def AV.sc : AV → Prop
  | .bool _ | .int _ _ | .str _ | .nptr | .nsl | .nmap | .nfn | .niface => True
  | .dsl cs _ => cs = []
  | .agg cs | .tup cs => scL cs
  | .iface _ v => v.sc
  | _ => False
where scL : List AV → Prop
  | [] => True
  | c :: cs => c.sc ∧ scL cs

mutual
theorem VR.sc : ∀ (a : AV) (v : Value), a.sc → VR K a v → VR K' a v
  | .bool b, v, hs, h => h
  | .int k n, v, hs, h => h
  | .str s, v, hs, h => h
  | .nptr, v, hs, h => h
  | .nsl, v, hs, h => h
  | .nmap, v, hs, h => h
  | .nfn, v, hs, h => h
  | .niface, v, hs, h => h
  | .dsl cs len, v, hs, h => by
    simp only [VR] at h ⊢
    obtain ⟨a, c, e, l, f⟩ := h
    exact ⟨a, c, e, l, fun hne => absurd hs hne⟩
  | .iface t x, v, hs, h => by
    simp only [VR] at h ⊢
    obtain ⟨u, e, hu⟩ := h
    exact ⟨u, e, VR.sc x u hs hu⟩
  | .agg cs, v, hs, h => by
    simp only [VR] at h ⊢
    obtain ⟨ho, us, e, hu⟩ := h
    exact ⟨ho, us, e, VRL.sc cs _ hs hu⟩
  | .tup vs, v, hs, h => by
    simp only [VR] at h ⊢
    obtain ⟨us, e, hu⟩ := h
    exact ⟨us, e, VRL.sc vs _ hs hu⟩
theorem VRL.sc : ∀ (a : List AV) (l : List Value), AV.sc.scL a → VRL K a l → VRL K' a l
  | [], l, hs, h => h
  | c :: cs, l, hs, h => by
    simp only [VRL] at h ⊢
    obtain ⟨u, us, e, h1, h2⟩ := h
    exact ⟨u, us, e, VR.sc c u hs.1 h1, VRL.sc cs us hs.2 h2⟩
end

/-- A call whose arguments are blocks of the caller's, seen as data while it runs; its result names no memory. -/
theorem VCall.lend {g : FuncId} {args args' : List AV} {R Q : AV → Heap → Prop} (h : VCall E g args' [] R) (hf : FzL H 0 [] args args') (hR : ∀ v0 H0, R v0 H0 → v0.sc ∧ Q v0 H) : VCall E g args H Q := by
  refine ⟨h.ok, fun K cargs w hH hv => ?_⟩
  have hA := hH.alone (imm := fun c o => w.cell? ⟨c, o, none⟩) hH.imm (fun _ _ _ h => h)
  have hv0 : VRL (Conc.alone (fun c o => w.cell? ⟨c, o, none⟩) w) args' cargs :=
    hf.sound hH (K' := Conc.alone (fun c o => w.cell? ⟨c, o, none⟩) w) ⟨hH.imm, fun b i hb => absurd hb (Nat.not_lt_zero _), fun j b i hj => by simp at hj, fun b i o v _ _ hb hc => hc⟩ hv
  refine (h.call _ cargs w hA hv0).mono fun e w' q => ?_
  obtain ⟨v0, cv, K0, H0, rfl, hx, hH0, hr, hq⟩ := q
  obtain ⟨hsc, hq'⟩ := hR v0 H0 hq
  have hB : K0.B = w.heap.size := hx.hB
  have hw0 : K0.w0 = w := hx.hw
  have hbel : Below w.heap.size w w' := by have := hH0.below; rw [hB, hw0] at this; exact this
  exact ⟨v0, cv, K.after w w', H, rfl, Ext.after hH w', hH.after hbel, VR.sc v0 cv hsc hr, hq'⟩

/-! ### A call whose result the caller goes on to write -/
inductive Sh (n : Nat) : AV → AV → Prop
  | osl {b ver off len sz : Nat} : Sh n (.osl b ver off len sz) (.osl (n + b) ver off len sz)
  | ptr {b ver off : Nat} : Sh n (.ptr b ver off) (.ptr (n + b) ver off)
  | same {v : AV} (h : v.low 0) : Sh n v v
  | two {a b a' b' : AV} (h : Sh n a a') (k : Sh n b b') : Sh n (.tup [a, b]) (.tup [a', b'])

def plainObj : AObj → Prop
  | .cells _ _ cs => lowL 0 cs
  | .gone => True
  | _ => False

def Conc.join (K K0 : Conc) (w : World) : Conc :=
  ⟨fun c o => match K.imm c o with
    | some v => some v
    | none => if w.heap.size ≤ c then K0.imm c o else none, K.blk ++ K0.blk, K.B, K.w0⟩

theorem Sh.sound {K0 K2 : Conc} (hi : ∀ b o v, K0.imm b o = some v → K2.imm b o = some v) (hb : ∀ (b : Nat) (i : BI), K0.blk[b]? = some i → K2.blk[n + b]? = some i) : ∀ {v v' : AV} {cv : Value}, Sh n v v' → VR K0 v cv → VR K2 v' cv
  | _, _, cv, .osl, h => by
    simp only [VR] at h ⊢
    obtain ⟨h1, i, e, l, s⟩ := h
    exact ⟨h1, i, hb _ i e, l, s⟩
  | _, _, cv, .ptr, h => by
    simp only [VR] at h ⊢
    obtain ⟨h1, i, e, l, s⟩ := h
    exact ⟨h1, i, hb _ i e, l, s⟩
  | _, _, cv, .same hl, h => VR.move hi (fun b i hb => absurd hb (Nat.not_lt_zero _)) _ cv hl h
  | _, _, cv, .two h1 h2, h => by
    simp only [VR, VRL] at h ⊢
    obtain ⟨us, e, u1, l1, e1, v1, u2, l2, e2, v2, e3⟩ := h
    exact ⟨us, e, u1, l1, e1, Sh.sound hi hb h1 v1, u2, l2, e2, Sh.sound hi hb h2 v2, e3⟩

theorem VCall.own {g : FuncId} {args : List AV} {R Q : AV → Heap → Prop} (h : VCall E g args [] R) (hl : lowL 0 args) (hR : ∀ v0 H0, R v0 H0 → (∀ o ∈ H0, plainObj o) ∧ ∃ v', Sh H.length v0 v' ∧ Q v' (H ++ H0)) : VCall E g args H Q := by
  refine ⟨h.ok, fun K cargs w hH hv => ?_⟩
  have hA := hH.alone (imm := K.imm) (fun _ _ _ h => h) hH.imm
  have hv0 : VRL (Conc.alone K.imm w) args cargs := VRL.move (K := K) (K' := Conc.alone K.imm w) (n := 0) (fun _ _ _ h => h) (fun b i hb => absurd hb (Nat.not_lt_zero _)) args cargs hl hv
  refine (h.call _ cargs w hA hv0).mono fun e w' q => ?_
  obtain ⟨v0, cv, K0, H0, rfl, hx, hH0, hr, hq⟩ := q
  obtain ⟨hp, v', hz, hq'⟩ := hR v0 H0 hq
  have hB : K0.B = w.heap.size := hx.hB
  have hw0 : K0.w0 = w := hx.hw
  have hbel : Below w.heap.size w w' := by have := hH0.below; rw [hB, hw0] at this; exact this
  have imm1 : ∀ c o v, K.imm c o = some v → (K.join K0 w).imm c o = some v := fun c o v h => by simp [Conc.join, h]
  have imm0 : ∀ c o v, K0.imm c o = some v → (K.join K0 w).imm c o = some v := by
    intro c o v e
    rcases hx.new c o v e with e' | e'
    · exact imm1 c o v e'
    · have e' : w.heap.size ≤ c := e'
      simp only [Conc.join]
      split
      · rename_i u hu
        have hlt := hH.imm_lt hu
        omega
      · rw [if_pos e']; exact e
  have blk1 : ∀ (b : Nat) (i : BI), K.blk[b]? = some i → (K.join K0 w).blk[b]? = some i := fun b i e => by
    simp [Conc.join, List.getElem?_append_left (List.getElem?_eq_some_iff.1 e).1, e]
  have blk0 : ∀ (b : Nat) (i : BI), K0.blk[b]? = some i → (K.join K0 w).blk[H.length + b]? = some i := fun b i e => by
    simp only [Conc.join]
    rw [← hH.len, List.getElem?_append_right (by omega)]
    simpa using e
  have get : ∀ (b : Nat) (i : BI), (K.join K0 w).blk[b]? = some i → (b < H.length ∧ K.blk[b]? = some i) ∨ (H.length ≤ b ∧ K0.blk[b - H.length]? = some i) := by
    intro b i e
    simp only [Conc.join] at e
    rcases Nat.lt_or_ge b H.length with hlt | hge
    · rw [List.getElem?_append_left (by rw [hH.len]; exact hlt)] at e
      exact .inl ⟨hlt, e⟩
    · rw [List.getElem?_append_right (by rw [hH.len]; exact hge), hH.len] at e
      exact .inr ⟨hge, e⟩
  have hext : Ext K (K.join K0 w) := by
    refine ⟨imm1, by simp [Conc.join], fun b i e => ⟨i, blk1 b i e, Nat.le_refl _, fun _ => rfl⟩, rfl, rfl, fun c o v e => ?_⟩
    simp only [Conc.join] at e
    split at e
    · rename_i u hu; cases e; exact .inl hu
    · split at e
      · rename_i hc
        exact .inr (Nat.le_trans (Nat.le_trans hH.hB hH.below.size) hc)
      · cases e
  refine ⟨v', cv, K.join K0 w, H ++ H0, rfl, hext, ⟨?_, fun b o i e e' => ?_, fun b i e => ?_, fun b b' i i' e e' he => ?_, fun b i o ob eo ek e => ?_, fun c o v e => ?_, hH.below.trans (hbel.mono (Nat.le_trans hH.hB hH.below.size)), hH.hB, fun g cs e => CR.ext hext _ _ _ (hH.glob g cs e)⟩, hz.sound imm0 blk0 hr, hq'⟩
  · simp [Conc.join, hH.len, hH0.len]
  · rcases get b i e' with ⟨hlt, e2⟩ | ⟨hge, e2⟩
    · rw [List.getElem?_append_left hlt] at e
      exact (hH.obj b o i e e2).mono hext (hbel.block _ (hH.at_ e2))
    · rw [List.getElem?_append_right hge] at e
      have ho := hH0.obj _ o i e e2
      have hpl := hp o (List.mem_of_getElem? e)
      cases o with
      | cells ver ty cs =>
        obtain ⟨x1, arr, x2, x3, x4, x5, x6⟩ := ho
        exact ⟨x1, arr, x2, x3, x4, x5, VRL.move imm0 (fun b i hb => absurd hb (Nat.not_lt_zero _)) cs _ hpl x6⟩
      | gone => exact ho
      | map => exact hpl.elim
      | dfr => exact hpl.elim
      | loop => exact hpl.elim
  · rcases get b i e with ⟨hlt, e2⟩ | ⟨hge, e2⟩
    · exact hH.low b i e2
    · have := hH0.low _ i e2
      rw [hB] at this
      exact Nat.le_trans (Nat.le_trans hH.hB hH.below.size) this
  · rcases get b i e with ⟨hlt, e2⟩ | ⟨hge, e2⟩ <;> rcases get b' i' e' with ⟨hlt', e2'⟩ | ⟨hge', e2'⟩
    · exact hH.inj b b' i i' e2 e2' he
    · have h1 := hH.at_ e2
      have h2 := hH0.low _ i' e2'
      rw [hB] at h2
      omega
    · have h1 := hH.at_ e2'
      have h2 := hH0.low _ i e2
      rw [hB] at h2
      omega
    · have := hH0.inj _ _ i i' e2 e2' he
      omega
  · rcases get b i e with ⟨hlt, e2⟩ | ⟨hge, e2⟩
    · have h1 := hH.off b i o ob (by rwa [List.getElem?_append_left hlt] at eo) ek e2
      have h2 := hH.at_ e2
      simp only [Conc.join, h1]
      rw [if_neg (by omega)]
    · have h1 := hH0.off _ i o ob (by rwa [List.getElem?_append_right hge] at eo) ek e2
      have h2 := hH0.low _ i e2
      rw [hB] at h2
      simp only [Conc.join]
      split
      · rename_i u hu
        have hlt := hH.imm_lt hu
        omega
      · rw [if_pos h2]; exact h1
  · simp only [Conc.join] at e
    split at e
    · rename_i u hu
      cases e
      have hl := hH.imm_lt hu
      rw [World.cell?_eq_of_block (hbel.block c hl)]
      exact hH.imm c o _ hu
    · split at e
      · exact hH0.imm c o v e
      · cases e

end

end Go.Proofs.Ytoijfbdjlagooaa

/- Loops whose rounds leave blocks behind. -/
namespace Go.Proofs.Ytoijfbdjlagooaa
open Go Go.RowKit
set_option linter.unusedVariables false
set_option linter.unusedSimpArgs false

def FzFr (H : Heap) (n : Nat) (σ : List Nat) : Fr → Fr → Prop
  | [], _ => True
  | (k, v') :: r, fr => (∃ v, lk fr k = some v ∧ Fz H n σ v v') ∧ FzFr H n σ r fr
inductive FzO (H : Heap) (n : Nat) (σ : List Nat) : AObj → AObj → Prop
  | cells {ver ver' : Nat} {e : TypeId} {cs cs' : List AV} (ev : ver = ver') (h : FzL H n σ cs cs') : FzO H n σ (.cells ver e cs) (.cells ver' e cs')
  | dfr : FzO H n σ .dfr .dfr
  | gone : FzO H n σ .gone .gone
  | loop {st : LoopState} {pend : Option Code} {fr fr' : Fr} {N : Nat} {ps : Array Tmp} {asg body : Code} {d : Nat} (hfr : FzFr H n σ fr' fr) (hd : d < n) : FzO H n σ (.loop st pend fr N ps asg body d) (.loop st pend fr' N ps asg body d)
def FzHp (H : Heap) (n : Nat) (σ : List Nat) : List Nat → Heap → Prop
  | [], [] => True
  | b :: bs, o' :: r => (∃ o, H[b]? = some o ∧ FzO H n σ o o') ∧ FzHp H n σ bs r
  | _, _ => False

structure Trunc (n : Nat) (σ : List Nat) (s s' : St) : Prop where
  nod : σ.Nodup
  above : ∀ b ∈ σ, n ≤ b
  H : FzHp s.H n σ (List.range n ++ σ) s'.H
  fr : FzFr s.H n σ s'.fr s.fr
  df : s'.df = s.df
  dfn : ∀ d ∈ s.df, d < n

theorem FzHp.length {H : Heap} {n : Nat} {σ : List Nat} : ∀ {l : List Nat} {H' : Heap}, FzHp H n σ l H' → H'.length = l.length
  | [], [], _ => rfl
  | _ :: _, _ :: _, h => by simp [FzHp.length h.2]
  | [], _ :: _, h => h.elim
  | _ :: _, [], h => h.elim
theorem FzHp.get {H : Heap} {n : Nat} {σ : List Nat} : ∀ {l : List Nat} {H' : Heap}, FzHp H n σ l H' → ∀ (j b : Nat), l[j]? = some b → ∃ o o', H[b]? = some o ∧ H'[j]? = some o' ∧ FzO H n σ o o'
  | [], [], _, j, b, e => by simp at e
  | b0 :: bs, o' :: r, h, j, b, e => by
    cases j with
    | zero =>
      simp at e
      subst e
      obtain ⟨o, h1, h2⟩ := h.1
      exact ⟨o, o', h1, rfl, h2⟩
    | succ j =>
      obtain ⟨o, o2, h1, h2, h3⟩ := FzHp.get h.2 j b (by simpa using e)
      exact ⟨o, o2, h1, by simpa using h2, h3⟩
  | [], _ :: _, h, j, b, e => h.elim
  | _ :: _, [], h, j, b, e => h.elim

section
variable {E : Env} {K K' : Conc} {H : Heap} {w : World} {n N : Nat} {σ : List Nat} {s s' : St} {rd ro : Option Nat} {a : Act} {Q : Exit → St → Prop}

theorem FzFr.sound (hH : HR E K H w) (hk : FzOK K K' w n σ) {fr : Fr} {t : Array Value} (hF : FR K N fr t) : ∀ {fr' : Fr}, FzFr H n σ fr' fr → ∀ k v, lk fr' k = some v → VR K' v (t.getD k undef)
  | [], _, k, v, e => by cases e
  | (k0, v0) :: r, h, k, v, e => by
    simp only [lk] at e
    split at e
    · rename_i hk0
      subst hk0
      cases e
      obtain ⟨u, h1, h2⟩ := h.1
      exact h2.sound hH hk (hF.2 _ u h1)
    · exact FzFr.sound hH hk hF h.2 k v e

open Classical in
noncomputable def Conc.cut (K : Conc) (n : Nat) (σ : List Nat) (w : World) : Conc :=
  ⟨fun c o => match K.imm c o with
    | some v => some v
    | none => if ∃ b i, n ≤ b ∧ b ∉ σ ∧ K.blk[b]? = some i ∧ i.c = c then w.cell? ⟨c, o, none⟩ else none,
   (List.range n ++ σ).map fun b => (K.blk[b]?).getD ⟨0, 0, 0⟩, K.B, K.w0⟩

theorem SR.cut (hr : SR E K N rd ro s a w) (hrd : ∀ b, rd = some b → b < n) (ht : Trunc n σ s s') : ∃ K', SR E K' N rd ro s' a w ∧ ∀ K0, Ext K0 K → K0.blk.length ≤ n → Ext K0 K' := by
  have hH := hr.H
  have hlen := ht.H.length
  have hidx : ∀ (j b : Nat), (List.range n ++ σ)[j]? = some b → ∃ o o' i, s.H[b]? = some o ∧ s'.H[j]? = some o' ∧ FzO s.H n σ o o' ∧ K.blk[b]? = some i ∧ OR K o i w := by
    intro j b e
    obtain ⟨o, o', h1, h2, h3⟩ := ht.H.get j b e
    obtain ⟨i, h4, h5⟩ := hH.info h1
    exact ⟨o, o', i, h1, h2, h3, h4, h5⟩
  have hnd : (List.range n ++ σ).Nodup := by
    rw [List.nodup_append]
    refine ⟨List.nodup_range, ht.nod, fun x hx y hy hxy => ?_⟩
    have h1 := List.mem_range.1 hx
    have h2 := ht.above y hy
    omega
  have get : ∀ (j : Nat) (i : BI), (K.cut n σ w).blk[j]? = some i → ∃ b, (List.range n ++ σ)[j]? = some b ∧ K.blk[b]? = some i := by
    intro j i e
    simp only [Conc.cut, List.getElem?_map] at e
    obtain ⟨b, h1, h2⟩ := Option.map_eq_some_iff.1 e
    obtain ⟨_, _, i', _, _, _, h3, _⟩ := hidx j b h1
    rw [h3] at h2
    simp at h2
    subst h2
    exact ⟨b, h1, h3⟩
  have put : ∀ (j b : Nat) (i : BI), (List.range n ++ σ)[j]? = some b → K.blk[b]? = some i → (K.cut n σ w).blk[j]? = some i := by
    intro j b i e e'
    simp only [Conc.cut, List.getElem?_map, e, Option.map_some, e', Option.getD_some]
  have lowix : ∀ b, b < n → (List.range n ++ σ)[b]? = some b := fun b hb => by
    rw [List.getElem?_append_left (by simpa using hb), List.getElem?_range hb]
  have highix : ∀ (j b : Nat), σ[j]? = some b → (List.range n ++ σ)[n + j]? = some b := fun j b hj => by
    rw [List.getElem?_append_right (by simp), List.length_range, Nat.add_sub_cancel_left, hj]
  have imm1 : ∀ c o v, K.imm c o = some v → (K.cut n σ w).imm c o = some v := fun c o v h => by simp [Conc.cut, h]
  have hk : FzOK K (K.cut n σ w) w n σ := by
    refine ⟨imm1, fun b i hb e => put b b i (lowix b hb) e, fun j b i hj e => put (n + j) b i (highix j b hj) e, fun b i o v hn hs e hc => ?_⟩
    simp only [Conc.cut]
    split
    · rename_i u hu
      rw [hH.imm _ _ _ hu] at hc
      exact hc
    · rw [if_pos ⟨b, i, hn, hs, e, rfl⟩]
      exact hc
  refine ⟨K.cut n σ w, ⟨⟨?_, fun j o' i e e' => ?_, fun j i e => ?_, fun j j' i i' e e' he => ?_, fun j i o ob eo ek e => ?_, fun c o v e => ?_, hH.below, hH.hB, fun g cs e => ?_⟩, ⟨hr.F.1, FzFr.sound hH hk hr.F ht.fr⟩, ?_, ?_⟩, fun K0 hx hl => ?_⟩
  · simp [Conc.cut, hlen]
  · obtain ⟨b, h1, h2⟩ := get j i e'
    obtain ⟨o, o2, i2, g1, g2, g3, g4, g5⟩ := hidx j b h1
    have : o2 = o' := Option.some.inj (g2.symm.trans e)
    subst this
    have : i2 = i := Option.some.inj (g4.symm.trans h2)
    subst this
    cases g3 with
    | cells hev hc =>
      subst hev
      obtain ⟨x1, arr, x2, x3, x4, x5, x6⟩ := g5
      have hl := (hc.sound hH hk x6).length
      have hl' := x6.length
      simp only [List.length_take] at hl hl'
      refine ⟨x1, arr, x2, x3, by rw [hc.all]; exact x4, by omega, ?_⟩
      have := hc.sound hH hk x6
      rename_i cs cs'
      have e2 : cs'.length = cs.length := by omega
      rw [e2]
      exact this
    | dfr => exact g5
    | gone => exact g5
    | loop hfr hd =>
      obtain ⟨x1, f, tmps, dc, x2, x3, jd, x4, x5⟩ := g5
      exact ⟨x1, f, tmps, dc, x2, ⟨x3.1, FzFr.sound hH hk x3 hfr⟩, jd, hk.blk _ _ hd x4, x5⟩
  · obtain ⟨b, h1, h2⟩ := get j i e
    exact hH.low b i h2
  · obtain ⟨b, h1, h2⟩ := get j i e
    obtain ⟨b', h1', h2'⟩ := get j' i' e'
    have hb := hH.inj b b' i i' h2 h2' he
    subst hb
    have hj := (List.getElem?_eq_some_iff.1 h1).1
    exact (List.getElem?_inj hj hnd).1 (h1.trans h1'.symm)
  · obtain ⟨b, h1, h2⟩ := get j i e
    obtain ⟨o1, o2, i2, g1, g2, g3, _, _⟩ := hidx j b h1
    have : o2 = ob := Option.some.inj (g2.symm.trans eo)
    subst this
    have hk1 : o1.kept = true := by cases g3 <;> first | rfl | exact ek
    have h3 := hH.off b i o o1 g1 hk1 h2
    simp only [Conc.cut, h3]
    rw [if_neg]
    rintro ⟨b', i', hn, hs, hb', hc⟩
    have : b' = b := hH.inj b' b i' i hb' h2 hc
    subst this
    have hm : b' ∈ List.range n ++ σ := List.mem_of_getElem? h1
    rcases List.mem_append.1 hm with hm | hm
    · have := List.mem_range.1 hm; omega
    · exact hs hm
  · simp only [Conc.cut] at e
    split at e
    · rename_i u hu; cases e; exact hH.imm c o _ hu
    · split at e
      · exact e
      · cases e
  · exact CR.move (n := 0) imm1 (fun b i hb => absurd hb (Nat.not_lt_zero _)) cs g 0 (E.G_low g cs e) (hH.glob g cs e)
  · rw [ht.df]
    have key : ∀ {ds : List Nat} {l : List Deferred}, (∀ d ∈ ds, d < n) → DR K ds l → DR (K.cut n σ w) ds l := by
      intro ds
      induction ds with
      | nil => intro l _ h; exact h
      | cons d ds ih =>
        intro l hd h
        obtain ⟨x, r, h1, ⟨i, h2, h3⟩, h4⟩ := h
        exact ⟨x, r, h1, ⟨i, hk.blk d i (hd d (List.mem_cons_self ..)) h2, h3⟩, ih (fun d hd' => hd d (List.mem_cons_of_mem _ hd')) h4⟩
    exact key ht.dfn hr.D
  · have hR := hr.R
    cases rd with
    | none => exact hR
    | some b =>
      obtain ⟨i, h1, h2, h3⟩ := hR
      exact ⟨i, hk.blk b i (hrd b rfl) h1, h2, h3⟩
  · refine ⟨fun c o v e => imm1 c o v (hx.imm c o v e), ?_, fun b i e => ?_, hx.hB, hx.hw, fun c o v e => ?_⟩
    · simp only [Conc.cut, List.length_map, List.length_append, List.length_range]; omega
    · obtain ⟨i', h1, h2, h3⟩ := hx.blk b i e
      have hb : b < n := Nat.lt_of_lt_of_le (List.getElem?_eq_some_iff.1 e).1 hl
      exact ⟨i', hk.blk b i' hb h1, h2, h3⟩
    · simp only [Conc.cut] at e
      split at e
      · rename_i u hu; cases e; exact hx.new c o _ hu
      · split at e
        · rename_i hex
          obtain ⟨b, i, _, _, hb, rfl⟩ := hex
          have := hH.low b i hb
          rw [hx.hB] at this
          exact .inr this
        · cases e

/-- A loop whose rounds leave blocks behind: what lies from n on is kept (σ) or becomes data. -/
theorem VLoop.tr {c : Code} {ι : Type} (m : Bool) (st : ι → St) (inv : ι → Prop) (μ : ι → Nat) (x0 : ι) (h0 : inv x0) (hm : Meets (st x0) s)
    (round : ∀ x, inv x → vcode E m N rd c (Then (fun s2 => ∃ y, inv y ∧ μ y < μ x ∧ ∃ σ, Trunc s.H.length σ s2 (st y)) Q) (st x)) : VLoop E N rd c Q s := by
  refine ⟨fun K ro a w hr => ?_⟩
  have hrd : ∀ b, rd = some b → b < s.H.length := by
    rintro b rfl
    obtain ⟨i, h1, _⟩ := hr.R
    rw [← hr.H.len]
    exact (List.getElem?_eq_some_iff.1 h1).1
  have e : st x0 = ⟨(st x0).fr, s.H, s.df⟩ := by rw [hm.H, hm.df]
  refine wpIn_loop_ix (fun j a w => ∃ K' x, Ext K K' ∧ SR E K' N rd ro (st x) a w ∧ inv x ∧ μ x = j) (n0 := μ x0) ⟨K, x0, Ext.refl K, by rw [e]; exact ⟨hr.H, hr.F.sub (vsub_ok hm.fr), hr.D, hr.R⟩, h0, rfl⟩ ?_
  rintro j a w ⟨K', x, hx, hr', hI, rfl⟩
  refine wpIn_mono (vcode_ok (round x hI) K' ro a w hr') fun e a' w' q => ?_
  obtain ⟨K2, s2, hx2, hr2, hq⟩ := q
  cases e with
  | normal =>
    obtain ⟨y, hy, hlt, σ, ht⟩ := hq
    obtain ⟨K3, hr3, hx3⟩ := hr2.cut hrd ht
    exact ⟨μ y, hlt, K3, y, hx3 K (hx.trans hx2) (by rw [hr.H.len]; exact Nat.le_refl _), hr3, hy, rfl⟩
  | _ => exact ⟨K2, s2, hx.trans hx2, hr2, hq⟩

end

end Go.Proofs.Ytoijfbdjlagooaa
