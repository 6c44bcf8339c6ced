/- The logic over abstract states: a range over a function. -/
import Derived.Test.YtcdnonggajoghaaE7
namespace Go.Proofs.Ytcdnonggajoghaa
open Go Go.RowKit
set_option linter.unusedVariables false
set_option linter.unusedSimpArgs false

section
variable {E : Env} {N : Nat} {rd : Option Nat} {Q Q' : Exit → St → Prop} {s : St} {K : Conc} {H : Heap} {w : World}

theorem grownBy_setObj (w : World) (c : Nat) (o : Obj) : w.grownBy { w with heap := w.heap.setIfInBounds c o } (some c) := by
  refine ⟨rfl, rfl, rfl, by simp, fun k hk hne => ?_⟩
  have : c ≠ k := fun h => hne (by rw [h])
  simp [Array.getElem?_setIfInBounds_ne this]

theorem HR.setObj (hH : HR E K H w) {b : Nat} {ob : AObj} (h0 : H[b]? = some ob) (hk : ob.kept = true) {i : BI} (hb : K.blk[b]? = some i) {o : AObj} {o' : Obj} (ho : OR (K.upd b i) o i { w with heap := w.heap.setIfInBounds i.c o' }) :
    Ext K (K.upd b i) ∧ HR E (K.upd b i) (H.set b o) { w with heap := w.heap.setIfInBounds i.c o' } :=
  ⟨Conc.ext_upd hb (Nat.le_refl _) (fun _ => rfl), hH.upd h0 hk hb (Nat.le_refl _) (fun _ => rfl) (.inl rfl) (grownBy_setObj w i.c o') ho⟩

theorem HR.pushObj (hH : HR E K H w) {o : AObj} {o' : Obj} (ho : OR (K.push ⟨w.heap.size, 0, 0⟩) o ⟨w.heap.size, 0, 0⟩ (w.alloc o')) :
    Ext K (K.push ⟨w.heap.size, 0, 0⟩) ∧ HR E (K.push ⟨w.heap.size, 0, 0⟩) (H ++ [o]) (w.alloc o') ∧ (K.push ⟨w.heap.size, 0, 0⟩).blk[H.length]? = some ⟨w.heap.size, 0, 0⟩ :=
  ⟨Conc.ext_push K _, hH.push (Nat.le_refl _) (World.grownBy_alloc w _ none) ho, by rw [← hH.len]; simp [Conc.push]⟩

/-- What a range over a function owes once the function has been called: the loop's record is not busy; the jump that waits is made. -/
def LoopEnd (E : Env) (N : Nat) (rd : Option Nat) (b : Nat) (Q : Exit → St → Prop) (fr : Fr) (df : List Nat) (H2 : Heap) : Prop :=
  ∃ st pend fr' n ps asg body d, H2[b]? = some (.loop st pend fr' n ps asg body d) ∧ st ≠ .busy ∧
    (match pend with
    | none => Q .normal ⟨fr, H2.set b .gone, df⟩
    | some c => AWp E N rd c Q ⟨fr, H2.set b .gone, df⟩)

theorem run_endLoop {P : Program} {c : Nat} {r : Loop} (h : w.heap[c]? = some (.loop r)) (hs : r.state ≠ .busy) :
    (Instr.endLoop c).run P w = .ok r.pending { w with heap := w.heap.setIfInBounds c (.loop { r with state := .exhausted }) } := by
  simp [Instr.endLoop, Instr.getLoop, getObj, setObj, Sem.run, h, hs]

theorem rangePost_of {ro : Option Nat} {b : Nat} {i : BI} {a : Act} {l : Nat} (hb : K.blk[b]? = some i) (hv : i.ver = 0) (hl : l = i.c) {R : AV → Heap → Prop} {df : List Nat} {K0 : Conc} (hx0 : Ext K0 K)
    (hF : FR K N s.fr a.tmps) (hD : DR K df a.defers) (hR : RR K rd ro) (hr : ∀ v H2, R v H2 → LoopEnd E N rd b Q s.fr df H2)
    {e : Ending} {w' : World} (h : ∃ v cv K' H', e = .returned cv ∧ Ext K K' ∧ HR E K' H' w' ∧ VR K' v cv ∧ R v H') : rangePost (fence ro) 0 E.P l (SPost E K0 N rd ro Q) a e w' := by
  obtain ⟨v, cv, K', H', rfl, hx, hH, _, hR'⟩ := h
  obtain ⟨st, pend, fr', n, ps, asg, body, d, hb', hst, hq⟩ := hr v H' hR'
  obtain ⟨i', hi', ho⟩ := hH.info hb'
  obtain ⟨j, e1, l1, s1⟩ := hx.blk b i hb
  have : j = i' := Option.some.inj (e1.symm.trans hi')
  subst this
  have hver : j.ver = 0 := ho.1
  have : j = i := s1 (by omega)
  subst this
  obtain ⟨_, f, tmps, dc, hh, _⟩ := ho
  subst hl
  have hend := run_endLoop (P := E.P) hh hst
  refine ⟨_, _, hend, ?_⟩
  obtain ⟨x1, x2⟩ := hH.setObj (o := .gone) (o' := .loop { state := .exhausted, pending := pend, fn := f, tmps := tmps, params := ps, assign := asg, body := body, defers := dc }) hb' rfl hi' (by
    simp only [OR]
    have := (Array.getElem?_eq_some_iff.1 hh).1
    simpa using this)
  have hsr : SR E (K'.upd b j) N rd ro ⟨s.fr, H'.set b .gone, df⟩ a { w' with heap := w'.heap.setIfInBounds j.c (.loop { state := .exhausted, pending := pend, fn := f, tmps := tmps, params := ps, assign := asg, body := body, defers := dc }) } :=
    ⟨x2, (hF.ext hx).ext x1, (hD.ext hx).ext x1, (hR.ext hx).ext x1⟩
  cases pend with
  | none => exact ⟨_, _, (hx0.trans hx).trans x1, hsr, hq⟩
  | some c => exact hq.of_post ((hx0.trans hx).trans x1) hsr

theorem run_invoke {P : Program} {f : FuncId} {fn : Func} (hfn : P.funcs[f]? = some fn) (hbody : fn.body.isSome = true) (hname : (fn.name == "runtime.NumGoroutine") = false) (cs args : Array Value) (w : World) :
    (invoke (.fn (.func f) cs) args).run P w = .ok (.enter f (args ++ cs)) w := by
  have hbn : ¬ fn.body = none := by intro hb; rw [hb] at hbody; cases hbody
  have hnn : ¬ fn.name = "runtime.NumGoroutine" := by simpa using hname
  simp [invoke, callFunc, hfn, hbn, hnn]

/-- An outermost loop. -/
theorem AWp.rangeFunc {g : Operand} {ps : Array Tmp} {asg body : Code} {f : FuncId} {fn : Func} {first cap : List AV} (hg : ev E s.fr g = some (.fn (.func f) first cap))
    (hfn : E.P.funcs[f]? = some fn) (hbody : fn.body.isSome = true) (hname : (fn.name == "runtime.NumGoroutine") = false)
    (h : ACall E f (first ++ [.yld (s.H.length + 1)] ++ cap) (s.H ++ [.dfr, .loop .ready none s.fr N ps asg body s.H.length]) fun _ H2 => LoopEnd E N none (s.H.length + 1) Q s.fr (s.H.length :: s.df) H2) :
    AWp E N none (.rangeFunc g ps asg body) Q s := by
  intro K ro a w hr
  have hro : ro = none := hr.R
  subst hro
  refine wpIn_rangeFunc fun fnid _ => ?_
  have e1 := ev_sound hr.H hr.F hg
  simp only [VR] at e1
  obtain ⟨hy, fs, cs, e2, v1, v2⟩ := e1
  have hbn : ¬ fn.body = none := by intro hb; rw [hb] at hbody; cases hbody
  have hnn : ¬ fn.name = "runtime.NumGoroutine" := by simpa using hname
  obtain ⟨x1, x2, x3⟩ := hr.H.pushObj (o := .dfr) (o' := .deferred (some [])) ⟨rfl, heap_alloc_new w _⟩
  have x4 := (Conc.ext_push (K.push ⟨w.heap.size, 0, 0⟩) ⟨w.heap.size + 1, 0, 0⟩)
  have hOR : OR ((K.push ⟨w.heap.size, 0, 0⟩).push ⟨(w.alloc (.deferred (some []))).heap.size, 0, 0⟩) (.loop .ready none s.fr N ps asg body s.H.length) ⟨(w.alloc (.deferred (some []))).heap.size, 0, 0⟩
      ((w.alloc (.deferred (some []))).alloc (.loop { state := .ready, pending := none, fn := fnid, tmps := a.tmps, params := ps, assign := asg, body := body, defers := w.heap.size })) := by
    refine ⟨rfl, fnid, a.tmps, w.heap.size, heap_alloc_new _ _, (hr.F.ext x1).ext (Conc.ext_push _ _), ⟨w.heap.size, 0, 0⟩, ?_, fun _ => rfl⟩
    have : (K.push ⟨w.heap.size, 0, 0⟩).blk[s.H.length]? = some ⟨w.heap.size, 0, 0⟩ := x3
    show (_ ++ _)[s.H.length]? = _
    rw [List.getElem?_append_left (List.getElem?_eq_some_iff.1 this).1]
    exact this
  obtain ⟨y1, y2, y3⟩ := x2.pushObj hOR
  have hx := x1.trans y1
  have hlen : (s.H ++ [AObj.dfr]).length = s.H.length + 1 := by simp
  rw [hlen] at y3
  have hyl : VRL ((K.push ⟨w.heap.size, 0, 0⟩).push ⟨(w.alloc (.deferred (some []))).heap.size, 0, 0⟩) [.yld (s.H.length + 1)] [.func (.yield (w.heap.size + 1)) #[] #[]] := by
    simp only [VRL, VR]
    exact ⟨_, [], rfl, ⟨rfl, _, y3, fun _ => by simp⟩, rfl⟩
  have hcall := h _ (fs.toList ++ [.func (.yield (w.heap.size + 1)) #[] #[]] ++ cs.toList) _ (by simpa using y2) (((VRL.ext hx _ _ v1).append hyl).append (VRL.ext hx _ _ v2))
  have hargs : (fs.toList ++ [Value.func (.yield (w.heap.size + 1)) #[] #[]] ++ cs.toList).toArray = fs ++ #[Value.func (.yield (w.heap.size + 1)) #[] #[]] ++ cs := by apply Array.ext'; simp
  rw [hargs] at hcall
  have r1 : (Instr.enterLoop fnid a.tmps ps asg body (fence none).round).run E.P w = .ok (w.heap.size + 1, [{ target := .collected w.heap.size, args := #[] }])
      ((w.alloc (.deferred (some []))).alloc (.loop { state := .ready, pending := none, fn := fnid, tmps := a.tmps, params := ps, assign := asg, body := body, defers := w.heap.size })) := by
    simp [Instr.enterLoop, fence]
  have r2 : (resolve a.eval (rangeCall g (w.heap.size + 1)) 0).run E.P ((w.alloc (.deferred (some []))).alloc (.loop { state := .ready, pending := none, fn := fnid, tmps := a.tmps, params := ps, assign := asg, body := body, defers := w.heap.size })) =
      .ok { target := .fn (.func f) cs, args := fs ++ #[.func (.yield (w.heap.size + 1)) #[] #[]] } ((w.alloc (.deferred (some []))).alloc (.loop { state := .ready, pending := none, fn := fnid, tmps := a.tmps, params := ps, assign := asg, body := body, defers := w.heap.size })) := by
    have : a.eval (.const (.func (.yield (w.heap.size + 1)) #[] #[])) = .func (.yield (w.heap.size + 1)) #[] #[] := rfl
    simp [resolve, e2, Deferred.ofValue, this]
  refine ⟨_, _, _, _, _, f, fs ++ #[.func (.yield (w.heap.size + 1)) #[] #[]] ++ cs, _, r1, r2, fun f' _ => trivial, run_invoke hfn hbody hname _ _ _, fun hh => by simp [fence, Fence.wide] at hh, ?_⟩
  refine CallsIn.mono hcall fun e w' q => ?_
  refine rangePost_of (a := { tmps := a.tmps, defers := [{ target := .collected w.heap.size, args := #[] }] ++ a.defers }) (b := s.H.length + 1) y3 rfl (by simp) hx (hr.F.ext hx) ?_ (hr.R.ext hx) (fun v H2 q => q) q
  refine ⟨_, a.defers, rfl, ?_, hr.D.ext hx⟩
  obtain ⟨i', e', l', s'⟩ := y1.blk s.H.length _ x3
  refine ⟨i', e', fun hv => ?_⟩
  have := s' (by simpa using hv)
  subst this
  rfl

/-- A loop in the round of another. -/
theorem AWp.rangeFuncIn {b0 : Nat} {g : Operand} {ps : Array Tmp} {asg body : Code} {f : FuncId} {fn : Func} {first cap : List AV} (hg : ev E s.fr g = some (.fn (.func f) first cap))
    (hfn : E.P.funcs[f]? = some fn) (hbody : fn.body.isSome = true) (hname : (fn.name == "runtime.NumGoroutine") = false) {st : LoopState} {pend : Option Code} {fr' : Fr} {n : Nat} {ps' : Array Tmp} {asg' body' : Code} {d : Nat}
    (hb0 : s.H[b0]? = some (.loop st pend fr' n ps' asg' body' d))
    (h : ACall E f (first ++ [.yld s.H.length] ++ cap) (s.H ++ [.loop .ready none s.fr N ps asg body d]) fun _ H2 => LoopEnd E N (some b0) s.H.length Q s.fr s.df H2) :
    AWp E N (some b0) (.rangeFunc g ps asg body) Q s := by
  intro K ro a w hr
  obtain ⟨i0, hi0, hro, hrs⟩ := hr.R
  obtain ⟨j0, hj0, ho0⟩ := hr.H.info hb0
  have : j0 = i0 := Option.some.inj (hj0.symm.trans hi0)
  subst this
  have hro := hro ho0.1
  subst hro
  obtain ⟨hv0, f0, tmps0, dc0, hh0, hF0, jd, hjd, hdc⟩ := ho0
  refine wpIn_rangeFunc fun fnid _ => ?_
  have e1 := ev_sound hr.H hr.F hg
  simp only [VR] at e1
  obtain ⟨hy, fs, cs, e2, v1, v2⟩ := e1
  have hOR : OR (K.push ⟨w.heap.size, 0, 0⟩) (.loop .ready none s.fr N ps asg body d) ⟨w.heap.size, 0, 0⟩
      (w.alloc (.loop { state := .ready, pending := none, fn := fnid, tmps := a.tmps, params := ps, assign := asg, body := body, defers := dc0 })) := by
    refine ⟨rfl, fnid, a.tmps, dc0, heap_alloc_new _ _, hr.F.ext (Conc.ext_push _ _), jd, ?_, hdc⟩
    show (_ ++ _)[d]? = _
    rw [List.getElem?_append_left (List.getElem?_eq_some_iff.1 hjd).1]
    exact hjd
  obtain ⟨hx, y2, y3⟩ := hr.H.pushObj hOR
  have hyl : VRL (K.push ⟨w.heap.size, 0, 0⟩) [.yld s.H.length] [.func (.yield w.heap.size) #[] #[]] := by
    simp only [VRL, VR]
    exact ⟨_, [], rfl, ⟨rfl, _, y3, fun _ => rfl⟩, rfl⟩
  have hcall := h _ (fs.toList ++ [.func (.yield w.heap.size) #[] #[]] ++ cs.toList) _ y2 (((VRL.ext hx _ _ v1).append hyl).append (VRL.ext hx _ _ v2))
  have hargs : (fs.toList ++ [Value.func (.yield w.heap.size) #[] #[]] ++ cs.toList).toArray = fs ++ #[Value.func (.yield w.heap.size) #[] #[]] ++ cs := by apply Array.ext'; simp
  rw [hargs] at hcall
  have r1 : (Instr.enterLoop fnid a.tmps ps asg body (fence (some j0.c)).round).run E.P w = .ok (w.heap.size, [])
      (w.alloc (.loop { state := .ready, pending := none, fn := fnid, tmps := a.tmps, params := ps, assign := asg, body := body, defers := dc0 })) := by
    simp [Instr.enterLoop, fence, Instr.getLoop, getObj, Sem.run, hh0]
  have r2 : (resolve a.eval (rangeCall g w.heap.size) 0).run E.P (w.alloc (.loop { state := .ready, pending := none, fn := fnid, tmps := a.tmps, params := ps, assign := asg, body := body, defers := dc0 })) =
      .ok { target := .fn (.func f) cs, args := fs ++ #[.func (.yield w.heap.size) #[] #[]] } (w.alloc (.loop { state := .ready, pending := none, fn := fnid, tmps := a.tmps, params := ps, assign := asg, body := body, defers := dc0 })) := by
    have : a.eval (.const (.func (.yield w.heap.size) #[] #[])) = .func (.yield w.heap.size) #[] #[] := rfl
    simp [resolve, e2, Deferred.ofValue, this]
  refine ⟨_, _, _, _, _, f, fs ++ #[.func (.yield w.heap.size) #[] #[]] ++ cs, _, r1, r2, fun f' _ => trivial, run_invoke hfn hbody hname _ _ _, fun hh => by simp [fence, Fence.wide] at hh, ?_⟩
  refine CallsIn.mono (show CallsIn (fence (some j0.c)) 0 E.P f _ _ _ from hcall) fun e w' q => ?_
  exact rangePost_of (a := { tmps := a.tmps, defers := [] ++ a.defers }) (b := s.H.length) y3 rfl rfl hx (hr.F.ext hx) (hr.D.ext hx) (hr.R.ext hx) (fun v H2 q => q) q

/-! ### A round -/
def putArgs (N : Nat) : List (Tmp × AV) → Fr → Option Fr
  | [], fr => some fr
  | (t, a) :: r, fr => if t < N then putArgs N r ((t, a) :: fr) else none

theorem putArgs_sound : ∀ {ps : List Tmp} {args : List AV} {cargs : List Value} {fr fr' : Fr} {t : Array Value}, FR K N fr t → VRL K args cargs → putArgs N (ps.zip args) fr = some fr' →
    FR K N fr' ((ps.zip cargs).foldl (fun tmps (p : Tmp × Value) => tmps.setIfInBounds p.1 p.2) t)
  | [], args, cargs, fr, fr', t, hF, hv, h => by simp [putArgs] at h; subst h; simpa using hF
  | p :: ps, [], cargs, fr, fr', t, hF, hv, h => by
    simp only [VRL] at hv
    subst hv
    simp [putArgs] at h
    subst h
    simpa using hF
  | p :: ps, a :: args, cargs, fr, fr', t, hF, hv, h => by
    simp only [VRL] at hv
    obtain ⟨u, us, rfl, h1, h2⟩ := hv
    simp only [List.zip_cons_cons, putArgs] at h
    split at h
    · rename_i hp
      simp only [List.zip_cons_cons, List.foldl_cons]
      exact putArgs_sound (hF.put hp h1) h2 h
    · cases h

/-- What the end of a round's body owes. -/
def RoundPost (b : Nat) (R : AV → Heap → Prop) (e : Exit) (s : St) : Prop :=
  ∃ st pend fr n ps asg body d, s.H[b]? = some (.loop st pend fr n ps asg body d) ∧
    match e with
    | .normal => R (.bool true) (s.H.set b (.loop .ready none fr n ps asg body d))
    | .ret => R (.bool false) (s.H.set b (.loop .done (some .ret) fr n ps asg body d))
    | .exit i => R (.bool false) (s.H.set b (.loop .done (some (.exit i)) fr n ps asg body d))
    | _ => False

theorem run_setLoop {P : Program} {c : Nat} {r : Loop} (h : w.heap[c]? = some (.loop r)) (jump : Option Code) :
    (Instr.endRound c jump).run P w = .ok (.bool jump.isNone) { w with heap := w.heap.setIfInBounds c (.loop { r with state := if jump.isNone then .ready else .done, pending := jump }) } := by
  simp [Instr.endRound, Instr.getLoop, getObj, setObj, Sem.run, h]

theorem OR.loop_set {b : Nat} {i : BI} (hb : K.blk[b]? = some i) {st : LoopState} {pend : Option Code} {fr : Fr} {n : Nat} {ps : Array Tmp} {asg body : Code} {d : Nat} {f : FuncId} {tmps : Array Value} {dc : Nat} (hv : i.ver = 0)
    (hlt : i.c < w.heap.size) (hF : FR K n fr tmps) (hd : ∃ j, K.blk[d]? = some j ∧ (j.ver = 0 → dc = j.c)) :
    OR (K.upd b i) (.loop st pend fr n ps asg body d) i { w with heap := w.heap.setIfInBounds i.c (.loop { state := st, pending := pend, fn := f, tmps := tmps, params := ps, assign := asg, body := body, defers := dc }) } := by
  have hx := Conc.ext_upd (K := K) hb (Nat.le_refl _) (fun _ => rfl)
  obtain ⟨j, h1, h2⟩ := hd
  obtain ⟨j', e', l', s'⟩ := hx.blk d j h1
  refine ⟨hv, f, tmps, dc, by simp [hlt], hF.ext hx, j', e', fun hv' => ?_⟩
  have := s' (by omega)
  subst this
  exact h2 hv'

theorem ARound.of_body {b : Nat} {args : List AV} {R : AV → Heap → Prop} {pend : Option Code} {fr fr' : Fr} {ps : Array Tmp} {asg body : Code} {d : Nat} (hb : H[b]? = some (.loop .ready pend fr N ps asg body d)) (hl : args.length = ps.size)
    (hp : putArgs N (ps.toList.zip args) fr = some fr')
    (h : AWp E N (some b) asg (Then (fun s1 => ∃ pend1 fr1 n1 ps1 asg1 body1 d1, s1.H[b]? = some (.loop .ready pend1 fr1 n1 ps1 asg1 body1 d1) ∧
      AWp E N (some b) body (RoundPost b R) { s1 with H := s1.H.set b (.loop .busy pend1 fr1 n1 ps1 asg1 body1 d1) }) (fun _ _ => False)) ⟨fr', H, []⟩) : ARound E b args H R := by
  intro K cargs w hH hv
  obtain ⟨i, hi, ho⟩ := hH.info hb
  obtain ⟨hver, f, tmps, dc, hh, hF, hd⟩ := ho
  have hal := hv.length
  have hF' := putArgs_sound hF hv hp
  refine ⟨i, i.c, f, (ps.toList.zip cargs).foldl (fun tmps (p : Tmp × Value) => tmps.setIfInBounds p.1 p.2) tmps, asg, body, hi, hver, ?_, ?_⟩
  · have hsz : ¬ cargs.length ≠ ps.size := by omega
    have hz : (ps.zip cargs.toArray).foldl (fun tmps (t, a) => tmps.setIfInBounds t a) tmps = (ps.toList.zip cargs).foldl (fun tmps (p : Tmp × Value) => tmps.setIfInBounds p.1 p.2) tmps := by
      rw [← Array.foldl_toList]
      simp
    have hsz' : ¬ cargs.toArray.size ≠ ps.size := by simpa using hsz
    have hg : (Instr.getLoop i.c).run E.P w = .ok { state := .ready, pending := pend, fn := f, tmps := tmps, params := ps, assign := asg, body := body, defers := dc } w := by
      simp [Instr.getLoop, getObj, Sem.run, hh]
    simp only [Instr.yield, Sem.run_bind, hg, Result.andThen_ok, if_neg hsz', Sem.run_pure]
    rw [hz]
  · refine roundIn_of_wpIn (F := Fence.wide) trivial ?_
    have hsr : SR E K N (some b) (some i.c) ⟨fr', H, []⟩ { tmps := (ps.toList.zip cargs).foldl (fun tmps (p : Tmp × Value) => tmps.setIfInBounds p.1 p.2) tmps, defers := [] } w :=
      ⟨hH, hF', rfl, i, hi, fun _ => rfl, rfl⟩
    refine wpIn_mono (show asg.wpIn (fence (some i.c)) 0 E.P _ _ _ from h K _ _ w hsr) fun e a1 w1 q => ?_
    obtain ⟨K1, s1, hx1, hr1, hq⟩ := q
    cases e with
    | normal =>
      obtain ⟨pend1, fr1, n1, ps1, asg1, body1, d1, hb1, hbody⟩ := hq
      obtain ⟨i1, hi1, ho1⟩ := hr1.H.info hb1
      obtain ⟨j, e1, l1, s1'⟩ := hx1.blk b i hi
      have : j = i1 := Option.some.inj (e1.symm.trans hi1)
      subst this
      have hjv : j.ver = 0 := ho1.1
      have hji : j = i := s1' (by omega)
      subst hji
      obtain ⟨_, f1, tmps1, dc1, hh1, hF1, hd1⟩ := ho1
      have hlt := (Array.getElem?_eq_some_iff.1 hh1).1
      refine ⟨{ w1 with heap := w1.heap.setIfInBounds j.c (.loop { state := .busy, pending := pend1, fn := f1, tmps := tmps1, params := ps1, assign := asg1, body := body1, defers := dc1 }) }, ?_, ?_⟩
      · simp [Instr.beginRound, Instr.getLoop, getObj, setObj, Sem.run, hh1]
      · obtain ⟨z1, z2⟩ := hr1.H.setObj hb1 rfl hi1 (OR.loop_set (st := .busy) (pend := pend1) (ps := ps1) (asg := asg1) (body := body1) (f := f1) hi1 hjv hlt hF1 hd1)
        have hsr2 : SR E (K1.upd b j) N (some b) (some j.c) { s1 with H := s1.H.set b (.loop .busy pend1 fr1 n1 ps1 asg1 body1 d1) } a1 _ := ⟨z2, hr1.F.ext z1, hr1.D.ext z1, hr1.R.ext z1⟩
        refine wpIn_mono (show body.wpIn (fence (some j.c)) 0 E.P _ _ _ from hbody _ _ _ _ hsr2) fun e a2 w2 q => ?_
        obtain ⟨K2, s2, hx2, hr2, hq2⟩ := q
        obtain ⟨st2, pend2, fr2, n2, ps2, asg2, body2, d2, hb2, hq2⟩ := hq2
        obtain ⟨i2, hi2, ho2⟩ := hr2.H.info hb2
        obtain ⟨j2, e2, l2, s2'⟩ := (z1.trans hx2).blk b j hi1
        have : j2 = i2 := Option.some.inj (e2.symm.trans hi2)
        subst this
        have hjv2 : j2.ver = 0 := ho2.1
        have hji2 : j2 = j := s2' (by omega)
        subst hji2
        obtain ⟨_, f2, tmps2, dc2, hh2, hF2, hd2⟩ := ho2
        have hlt2 := (Array.getElem?_eq_some_iff.1 hh2).1
        have fin : ∀ (jump : Option Code) (st' : LoopState), st' = (if jump.isNone then LoopState.ready else .done) → R (.bool jump.isNone) (s2.H.set b (.loop st' jump fr2 n2 ps2 asg2 body2 d2)) →
            ∃ v w', (Instr.endRound j2.c jump).run E.P w2 = .ok v w' ∧ ∃ v' cv K' H', Ending.returned v = .returned cv ∧ Ext K K' ∧ HR E K' H' w' ∧ VR K' v' cv ∧ R v' H' := by
          rintro jump st' rfl hR
          obtain ⟨y1, y2⟩ := hr2.H.setObj hb2 rfl hi2 (OR.loop_set (st := if jump.isNone then LoopState.ready else .done) (pend := jump) (ps := ps2) (asg := asg2) (body := body2) (f := f2) hi2 hjv2 hlt2 hF2 hd2)
          exact ⟨_, _, run_setLoop hh2 jump, .bool jump.isNone, _, _, _, rfl, ((hx1.trans z1).trans hx2).trans y1, y2, rfl, hR⟩
        cases e with
        | normal => exact fin none .ready rfl hq2
        | ret => exact fin (some .ret) .done rfl hq2
        | exit id => exact fin (some (.exit id)) .done rfl hq2
        | _ => exact hq2.elim
    | _ => exact hq.elim

end

end Go.Proofs.Ytcdnonggajoghaa
