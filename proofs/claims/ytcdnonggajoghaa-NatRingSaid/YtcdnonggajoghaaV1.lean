/- What has to hold ahead of a piece of code, as a proposition that unfolds. -/
import Derived.Test.YtcdnonggajoghaaVN
namespace Go.Proofs.Ytcdnonggajoghaa
open Go Go.RowKit
set_option linter.unusedVariables false
set_option linter.unusedSimpArgs false

structure FnOK (E : Env) (g : FuncId) : Prop where
  ex : ∃ fn, E.P.funcs[g]? = some fn ∧ fn.body.isSome = true ∧ (fn.name == "runtime.NumGoroutine") = false
structure VCall (E : Env) (g : FuncId) (args : List AV) (H : Heap) (R : AV → Heap → Prop) : Prop where
  ok : FnOK E g
  call : ACall E g args H R
structure VRound (E : Env) (b : Nat) (args : List AV) (H : Heap) (R : AV → Heap → Prop) : Prop where
  call : ARound E b args H R
structure VLoop (E : Env) (N : Nat) (rd : Option Nat) (c : Code) (Q : Exit → St → Prop) (s : St) : Prop where
  run : AWp E N rd (.loop c) Q s
structure VDraw (E : Env) (N : Nat) (rd : Option Nat) (id : Nat) (ops : Array Oper) (Q : Exit → St → Prop) (s : St) : Prop where
  run : AWp E N rd (.region id ops true) Q s
structure VRange (E : Env) (N : Nat) (rd : Option Nat) (g : Operand) (ps : Array Tmp) (asg body : Code) (Q : Exit → St → Prop) (s : St) : Prop where
  run : AWp E N rd (.rangeFunc g ps asg body) Q s
structure VCode (E : Env) (N : Nat) (rd : Option Nat) (c : Code) (Q : Exit → St → Prop) (s : St) : Prop where
  run : AWp E N rd c Q s

/-- What comes next: a place where a walk stops. -/
structure VNext (E : Env) (N : Nat) (rd : Option Nat) (c : Code) (Q : Exit → St → Prop) (s : St) : Prop where
  run : AWp E N rd c Q s

def vput (N : Nat) (fr : Fr) (d : Option Tmp) (v : AV) (K : Fr → Prop) : Prop :=
  match d with
  | none => K fr
  | some d => match Nat.blt d N with
    | true => K ((d, v) :: fr)
    | false => False
theorem vput_ok {N : Nat} {fr : Fr} {d : Option Tmp} {v : AV} {K : Fr → Prop} (h : vput N fr d v K) : ∃ fr', putd N fr d v = some fr' ∧ K fr' := by
  unfold vput at h
  split at h
  · exact ⟨_, rfl, h⟩
  · split at h
    · rename_i hd
      have hd : _ < N := Nat.le_of_ble_eq_true hd
      exact ⟨_, by simp only [putd, if_pos hd], h⟩
    · exact h.elim

def vgd (ops : List Oper) (fr : Fr) (g : Option (Nat × Bool)) (A B : Prop) : Prop :=
  match g with
  | none => A
  | some (j, want) => match (ops[j]?).bind (·.dst) with
    | none => B
    | some d => match lk fr d with
      | some (.bool b) => match want with
        | true => VB b A B
        | false => VB b B A
      | some (.tup _) => B
      | _ => False
theorem vgd_ok {ops : Array Oper} {fr : Fr} {o : Oper} {A B : Prop} (h : vgd ops.toList fr o.guard A B) : ∃ t, gd fr ops o = some t ∧ (if t then A else B) := by
  unfold vgd at h
  split at h
  · rename_i hg; exact ⟨true, by simp only [gd, hg], h⟩
  · rename_i j want hg
    rw [Array.getElem?_toList] at h
    split at h
    · rename_i hd; exact ⟨false, by simp only [gd, hg, hd], h⟩
    · rename_i d hd
      split at h
      · rename_i b hb
        refine ⟨b == want, by simp only [gd, hg, hd, hb], ?_⟩
        cases want <;> cases b
        · exact h.f rfl
        · exact h.t rfl
        · exact h.f rfl
        · exact h.t rfl
      · rename_i vs hb
        exact ⟨false, by simp only [gd, hg, hd, hb], h⟩
      · exact h.elim

section
variable {E : Env} {N : Nat} {rd : Option Nat} {Q : Exit → St → Prop} {s : St}

theorem dsl_nil_run {K : Conc} {P : Program} {w : World} {t el : TypeId} {cs : List AV} {len : Nat} {xv yv : Value} {xo yo : Operand} (hu : P.underlying t = some (.slice el)) (hx : VR K (.dsl cs len) xv) (hy : VR K .nsl yv) :
    ∃ b : Bool, (b = true → cs = []) ∧ (do eqGuard .eql t xo yo xv yv; binOp .eql t xv yv : Sem Value).run P w = .ok (.bool b) w ∧ (do eqGuard .neq t xo yo xv yv; binOp .neq t xv yv : Sem Value).run P w = .ok (.bool (!b)) w := by
  simp only [VR] at hx hy
  obtain ⟨a, c, rfl, _, hcr⟩ := hx
  subst hy
  have red : ∀ r, (∀ n, (Op.equalIn (n + 1) t (.slice a len c) (.slice none 0 0)).run P w = .ok r w) → (Op.equal t (.slice a len c) (.slice none 0 0)).run P w = .ok r w := fun r hn => hn 9999
  cases a with
  | none =>
    refine ⟨true, fun _ => ?_, ?_, ?_⟩
    · by_cases h0 : cs = []
      · exact h0
      · obtain ⟨b, o, e, _⟩ := hcr h0
        cases e
    · have := red true (fun n => by simp [Op.equalIn, run_underlying hu])
      simp [eqGuard, binOp, this]
    · have := red true (fun n => by simp [Op.equalIn, run_underlying hu])
      simp [eqGuard, binOp, this]
  | some p =>
    refine ⟨false, fun h => Bool.noConfusion h, ?_, ?_⟩
    · have := red false (fun n => by simp [Op.equalIn, run_underlying hu])
      simp [eqGuard, binOp, this]
    · have := red false (fun n => by simp [Op.equalIn, run_underlying hu])
      simp [eqGuard, binOp, this]

/-- An operation whose result may be given up as data. -/
theorem AIx.opN {ops : Array Oper} {i : Nat} {is : List Nat} {o : Oper} {v : AV} {H' : Heap} (ho : ops[i]? = some o) (hg : gd s.fr ops o = some true) (hop : aop E s.fr s.H o.op o.type = some (v, H'))
    (h : VNew E (fun v H' => ∃ fr', putd N s.fr o.dst v = some fr' ∧ AIx E N rd ops is Q { s with fr := fr', H := H' }) v H') : AIx E N rd ops (i :: is) Q s := by
  intro K0 K ro a w hx0 hr
  obtain ⟨hdef, K1, cv, w', nx, x1, x2, x3, x4, x5⟩ := aop_sound hr.H hr.F hop
  obtain ⟨K2, v2, H2, y1, y2, y3, fr', hp, hq⟩ := h.ok K1 w' cv x4 x5
  have hx := x1.trans y1
  have hF' := putd_sound (hr.F.ext hx) y3 hp
  have hnext : wpOpsIn (fence ro) 0 E.P ops (SPost E K0 N rd ro Q) is (a.put o.dst cv) w' :=
    hq K0 K2 ro _ w' (hx0.trans hx) ⟨y2, hF', by cases o.dst <;> exact hr.D.ext hx, hr.R.ext hx⟩
  simp only [wpOpsIn, ho, gd_sound hr.F hg, if_true]
  refine ⟨about_wide rfl _, ?_⟩
  rw [show (fence ro).round = ro from rfl, Oper.semAt_eq ro a.eval o hdef, x2]
  rcases x3 with rfl | ⟨rfl, rfl⟩
  · exact hnext
  · exact hnext

/-- Is a slice of data nil? If it holds something it is not; else it may be. -/
theorem AIx.nilc {ops : Array Oper} {i : Nat} {is : List Nat} {o : Oper} {op : BinOp} {t yt el : TypeId} {x y : Operand} {cs : List AV} {len : Nat} (ho : ops[i]? = some o) (hg : gd s.fr ops o = some true)
    (hop : o.op = .binOp op t x y yt) (h2 : op = .eql ∨ op = .neq) (hx : ev E s.fr x = some (.dsl cs len)) (hy : ev E s.fr y = some .nsl) (hu : E.un t = some (.slice el))
    (h : ∀ b : Bool, (b = (op == .eql) → cs = []) → ∃ fr', putd N s.fr o.dst (.bool b) = some fr' ∧ AIx E N rd ops is Q { s with fr := fr' }) : AIx E N rd ops (i :: is) Q s := by
  intro K0 K ro a w hx0 hr
  simp only [wpOpsIn, ho, gd_sound hr.F hg, if_true]
  refine ⟨about_wide rfl _, ?_⟩
  obtain ⟨b, hb, r1, r2⟩ := dsl_nil_run (P := E.P) (w := w) (xo := x) (yo := y) (Env.un_ok hu) (ev_sound hr.H hr.F hx) (ev_sound hr.H hr.F hy)
  have key : ∃ b' : Bool, (b' = (op == .eql) → cs = []) ∧ (execOp a.eval o).run E.P w = .ok (.value (.bool b')) w := by
    rcases h2 with rfl | rfl
    · refine ⟨b, fun e => hb (by simpa using e), ?_⟩
      have : (execOp a.eval o).run E.P w = (do pure (Next.value (← (do eqGuard .eql t x y (a.eval x) (a.eval y); binOp .eql t (a.eval x) (a.eval y)))) : Sem Next).run E.P w := by
        obtain ⟨dst, op', ty, pos, after, guard⟩ := o
        dsimp only at hop
        subst hop
        rfl
      rw [this]
      simp only [Sem.run_bind, r1] at r1 ⊢
      simp [r1]
    · refine ⟨!b, fun e => hb (by cases b <;> simp_all), ?_⟩
      have : (execOp a.eval o).run E.P w = (do pure (Next.value (← (do eqGuard .neq t x y (a.eval x) (a.eval y); binOp .neq t (a.eval x) (a.eval y)))) : Sem Next).run E.P w := by
        obtain ⟨dst, op', ty, pos, after, guard⟩ := o
        dsimp only at hop
        subst hop
        rfl
      rw [this]
      simp only [Sem.run_bind, r2] at r2 ⊢
      simp [r2]
  obtain ⟨b', hb', hrun⟩ := key
  obtain ⟨fr', hp, hq⟩ := h b' hb'
  rw [show (fence ro).round = ro from rfl, Oper.semAt_eq ro a.eval o (by intro c; rw [hop]; simp), hrun]
  exact hq K0 K ro _ w hx0 ⟨hr.H, putd_sound (v := .bool b') (cv := .bool b') hr.F rfl hp, by cases o.dst <;> exact hr.D, hr.R⟩
end

/-- One operation. -/
def vopX (E : Env) (m : Bool) (fr : Fr) (H : Heap) (K : AV → Heap → Prop) (op : Op) (ty : TypeId) : Prop :=
  match op with
  | .call { callee := .value f, args, argTypes } => match ev E fr f, evs E fr args.toList with
    | some (.fn (.func g) first cap), some xs => VCall E g (first ++ xs ++ cap) H K
    | some (.yld b), some xs => VRound E b xs H K
    | _, _ => False
  | .call { callee := .builtin .append, args, argTypes } => vopW E fr H (VNew E K) (.call { callee := .builtin .append, args, argTypes }) ty
  | .alloc t => vopW E fr H K (.alloc t) ty
  | .box t x => vopW E fr H K (.box t x) ty
  | .buildSlice t n ps => vopW E fr H (VNew E K) (.buildSlice t n ps) ty
  | .store t a x => vopW E fr H K (.store t a x) ty
  | .makeSlice t l c => vopW E fr H K (.makeSlice t l c) ty
  | .binOp .eql t x y yt => match ev E fr x, ev E fr y, E.un t with
    | some (.dsl cs len), some .nsl, some (.slice _) => ∀ b : Bool, (b = true → cs = []) → K (.bool b) H
    | _, _, _ => vopQ E m fr H (fun v => K v H) (.binOp .eql t x y yt) ty
  | .binOp .neq t x y yt => match ev E fr x, ev E fr y, E.un t with
    | some (.dsl cs len), some .nsl, some (.slice _) => ∀ b : Bool, (b = false → cs = []) → K (.bool b) H
    | _, _, _ => vopQ E m fr H (fun v => K v H) (.binOp .neq t x y yt) ty
  | op => vopQ E m fr H (fun v => K v H) op ty

def vops (E : Env) (m : Bool) (N : Nat) (ops : List Oper) : List Oper → Fr → Heap → (Fr → Heap → Prop) → Prop
  | [], fr, H, K => K fr H
  | o :: r, fr, H, K => vgd ops fr o.guard (vopX E m fr H (fun v H' => vput N fr o.dst v fun fr' => vops E m N ops r fr' H' K) o.op o.type)
      (vput N fr o.dst (.tup []) fun fr' => vops E m N ops r fr' H K)

def vq (E : Env) (m : Bool) (N : Nat) (H : Heap) (ops : List Oper) : List Oper → Fr → (Fr → Prop) → Prop
  | [], fr, K => K fr
  | o :: r, fr, K => vgd ops fr o.guard (vopQ E m fr H (fun v => vput N fr o.dst v fun fr' => vq E m N H ops r fr' K) o.op o.type)
      (vput N fr o.dst (.tup []) fun fr' => vq E m N H ops r fr' K)

def vcode (E : Env) (m : Bool) (N : Nat) (rd : Option Nat) : Code → (Exit → St → Prop) → St → Prop
  | .skip, Q, s => Q .normal s
  | .label _, Q, s => Q .normal s
  | .exit i, Q, s => Q (.exit i) s
  | .ret, Q, s => Q .ret s
  | .seq x y, Q, s => vcode E m N rd x (Then (VNext E N rd y Q) Q) s
  | .cond c x y, Q, s => match ev E s.fr c with
    | some (.bool b) => VB b (vcode E m N rd x Q s) (vcode E m N rd y Q s)
    | _ => False
  | .block id c, Q, s => vcode E m N rd c (InBlock id Q) s
  | .loop c, Q, s => VLoop E N rd c Q s
  | .region id ops true, Q, s => VDraw E N rd id ops Q s
  | .region id ops false, Q, s => vops E m N ops.toList ops.toList s.fr s.H fun fr H => Q .normal ⟨fr, H, s.df⟩
  | .rangeFunc g ps asg body, Q, s => VRange E N rd g ps asg body Q s
  | .scope c, Q, s => VCode E N rd (.scope c) Q s
  | .goto l, Q, s => VCode E N rd (.goto l) Q s
  | .refuse w, Q, s => False

section
variable {E : Env} {m : Bool} {N : Nat} {rd : Option Nat} {Q : Exit → St → Prop} {s : St} {fr : Fr} {H : Heap}

theorem vopX_ok {K : AV → Heap → Prop} {op : Op} {ty : TypeId} (h : vopX E m fr H K op ty) :
    (∃ r, aop E fr H op ty = some r ∧ VNew E K r.1 r.2) ∨
    (∃ f args ts g first cap xs, op = .call { callee := .value f, args := args, argTypes := ts } ∧ ev E fr f = some (.fn (.func g) first cap) ∧ evs E fr args.toList = some xs ∧ VCall E g (first ++ xs ++ cap) H K) ∨
    (∃ f args ts b xs, op = .call { callee := .value f, args := args, argTypes := ts } ∧ ev E fr f = some (.yld b) ∧ evs E fr args.toList = some xs ∧ VRound E b xs H K) ∨
    (∃ bo t x y yt cs len el, op = .binOp bo t x y yt ∧ (bo = .eql ∨ bo = .neq) ∧ ev E fr x = some (.dsl cs len) ∧ ev E fr y = some .nsl ∧ E.un t = some (.slice el) ∧ ∀ b : Bool, (b = (bo == .eql) → cs = []) → K (.bool b) H) := by
  have keyN : ∀ {op : Op}, aopQ E fr H op ty = none → vopW E fr H (VNew E K) op ty → ∃ r, aop E fr H op ty = some r ∧ VNew E K r.1 r.2 := by
    intro op hq hw
    obtain ⟨r, h1, h2⟩ := vopW_ok hw
    exact ⟨r, by simp only [aop, hq, h1], h2⟩
  have keyW : ∀ {op : Op}, aopQ E fr H op ty = none → vopW E fr H K op ty → ∃ r, aop E fr H op ty = some r ∧ VNew E K r.1 r.2 := by
    intro op hq hw
    obtain ⟨r, h1, h2⟩ := vopW_ok hw
    exact ⟨r, by simp only [aop, hq, h1], .keep h2⟩
  unfold vopX at h
  split at h
  · rename_i f args ts
    split at h
    · rename_i g first cap xs h1 h2
      exact .inr (.inl ⟨f, args, ts, g, first, cap, xs, rfl, h1, h2, h⟩)
    · rename_i b xs h1 h2
      exact .inr (.inr (.inl ⟨f, args, ts, b, xs, rfl, h1, h2, h⟩))
    · exact h.elim
  · refine .inl (keyN ?_ h)
    simp only [aopQ, abuiltin]
    split <;> rfl
  · exact .inl (keyW rfl h)
  · exact .inl (keyW rfl h)
  · exact .inl (keyN rfl h)
  · exact .inl (keyW rfl h)
  · exact .inl (keyW rfl h)
  · split at h
    · rename_i cs len el h1 h2 h3
      exact .inr (.inr (.inr ⟨_, _, _, _, _, cs, len, el, rfl, .inl rfl, h1, h2, h3, fun b hb => h b (fun e => hb (by rw [e]; rfl))⟩))
    · obtain ⟨v, h1, h2⟩ := vopQ_ok h
      exact .inl ⟨(v, H), by simp only [aop, h1], .keep h2⟩
  · split at h
    · rename_i cs len el h1 h2 h3
      exact .inr (.inr (.inr ⟨_, _, _, _, _, cs, len, el, rfl, .inr rfl, h1, h2, h3, fun b hb => h b (fun e => hb (by rw [e]; rfl))⟩))
    · obtain ⟨v, h1, h2⟩ := vopQ_ok h
      exact .inl ⟨(v, H), by simp only [aop, h1], .keep h2⟩
  · obtain ⟨v, h1, h2⟩ := vopQ_ok h
    exact .inl ⟨(v, H), by simp only [aop, h1], .keep h2⟩

theorem vops_ok {ops : Array Oper} : ∀ {l : List Oper} {i : Nat} {fr : Fr} {H : Heap} {df : List Nat}, l = ops.toList.drop i → vops E m N ops.toList l fr H (fun fr H => Q .normal ⟨fr, H, df⟩) →
    AIx E N rd ops (List.range' i l.length) Q ⟨fr, H, df⟩
  | [], i, fr, H, df, hl, h => AIx.nil h
  | o :: r, i, fr, H, df, hl, h => by
    have hi : i < ops.toList.length := by
      apply Nat.lt_of_not_le
      intro hle
      rw [List.drop_eq_nil_of_le hle] at hl
      cases hl
    have hd := List.drop_eq_getElem_cons hi
    rw [← hl] at hd
    have ho : ops[i]? = some o := by
      rw [← Array.getElem?_toList, List.getElem?_eq_getElem hi]
      exact congrArg some (List.cons.inj hd).1.symm
    have hr : r = ops.toList.drop (i + 1) := (List.cons.inj hd).2
    rw [List.length_cons, List.range'_succ]
    simp only [vops] at h
    obtain ⟨t, hg, h⟩ := vgd_ok h
    cases t with
    | true =>
      simp only [if_true] at h
      rcases vopX_ok h with ⟨r', h1, h2⟩ | ⟨f, args, ts, g, first, cap, xs, hop, hf, hxs, hc⟩ | ⟨f, args, ts, b, xs, hop, hf, hxs, hc⟩ | ⟨bo, t, x, y, yt, cs, len, el, hop, hbo, hx, hy, hu, hc⟩
      · refine AIx.opN (s := ⟨fr, H, df⟩) ho hg h1 ⟨fun K w cv hH hv => ?_⟩
        obtain ⟨K', v', H', x1, x2, x3, x4⟩ := h2.ok K w cv hH hv
        obtain ⟨fr', h3, h4⟩ := vput_ok x4
        exact ⟨K', v', H', x1, x2, x3, fr', h3, vops_ok hr h4⟩
      · obtain ⟨fn, hfn, hb, hn⟩ := hc.ok.ex
        exact AIx.call (s := ⟨fr, H, df⟩) ho hg hop hf hxs hfn hb hn (hc.call.mono fun v H' hk => by
          obtain ⟨fr', h3, h4⟩ := vput_ok hk
          exact ⟨fr', h3, vops_ok hr h4⟩)
      · exact AIx.yield (s := ⟨fr, H, df⟩) ho hg hop hf hxs (hc.call.mono fun v H' hk => by
          obtain ⟨fr', h3, h4⟩ := vput_ok hk
          exact ⟨fr', h3, vops_ok hr h4⟩)
      · exact AIx.nilc (s := ⟨fr, H, df⟩) ho hg hop hbo hx hy hu fun b hb => by
          obtain ⟨fr', h3, h4⟩ := vput_ok (hc b hb)
          exact ⟨fr', h3, vops_ok hr h4⟩
    | false =>
      simp only [Bool.false_eq_true, if_false] at h
      obtain ⟨fr', h3, h4⟩ := vput_ok h
      exact AIx.pass (s := ⟨fr, H, df⟩) ho hg h3 (vops_ok hr h4)

theorem vcode_ok : ∀ {c : Code} {Q : Exit → St → Prop} {s : St}, vcode E m N rd c Q s → AWp E N rd c Q s
  | .skip, Q, s, h => AWp.skip h
  | .label _, Q, s, h => AWp.label h
  | .exit i, Q, s, h => AWp.exit h
  | .ret, Q, s, h => AWp.ret h
  | .seq x y, Q, s, h => AWp.seq ((vcode_ok (c := x) h).mono fun e s' q => by
      cases e with
      | normal => exact VNext.run q
      | _ => exact q)
  | .cond c x y, Q, s, h => by
    simp only [vcode] at h
    split at h
    · rename_i b hb
      cases b with
      | true => exact AWp.cond hb (vcode_ok (h.t rfl))
      | false => exact AWp.cond hb (vcode_ok (h.f rfl))
    · exact h.elim
  | .block id c, Q, s, h => AWp.block (vcode_ok (c := c) h)
  | .loop c, Q, s, h => VLoop.run h
  | .region id ops true, Q, s, h => VDraw.run h
  | .region id ops false, Q, s, h => by
    refine AWp.region ?_
    have := vops_ok (ops := ops) (Q := Q) (rd := rd) (i := 0) (by simp) h
    rw [List.range_eq_range']
    simpa using this
  | .rangeFunc g ps asg body, Q, s, h => VRange.run h
  | .scope c, Q, s, h => VCode.run h
  | .goto l, Q, s, h => VCode.run h
  | .refuse w, Q, s, h => h.elim

theorem vq_ok {ops : Array Oper} {K : Fr → Prop} : ∀ {l : List Oper} {fr : Fr}, vq E m N H ops.toList l fr K → ∃ fr', aq E N ops l fr H = some fr' ∧ K fr'
  | [], fr, h => ⟨fr, rfl, h⟩
  | o :: r, fr, h => by
    simp only [vq] at h
    obtain ⟨t, hg, h⟩ := vgd_ok h
    cases t with
    | true =>
      simp only [if_true] at h
      obtain ⟨v, h1, h2⟩ := vopQ_ok h
      obtain ⟨fr', h3, h4⟩ := vput_ok h2
      obtain ⟨fr2, h5, h6⟩ := vq_ok h4
      exact ⟨fr2, by simp only [aq, hg, h1, h3, h5], h6⟩
    | false =>
      simp only [Bool.false_eq_true, if_false] at h
      obtain ⟨fr', h3, h4⟩ := vput_ok h
      obtain ⟨fr2, h5, h6⟩ := vq_ok h4
      exact ⟨fr2, by simp only [aq, hg, h3, h5], h6⟩

def quietOps (ops : Array Oper) : Bool := ops.toList.all fun o => match o.op with
  | .store _ _ _ | .alloc _ | .box _ _ | .makeSlice _ _ _ | .buildSlice _ _ _ | .call { callee := .builtin .append, args := _, argTypes := _ } | .call { callee := .value _, args := _, argTypes := _ } => false
  | _ => true

/-- A region that draws its order, all of it quiet. -/
theorem VDraw.q (m : Bool) {id : Nat} {ops : Array Oper} (hqu : quietOps ops = true) (hm : E.P.follows .mixedOrders = true) (hB : Region.lexB .any ops = true) (hd : noDefer ops = true)
    (h : vq E m N s.H ops.toList ops.toList s.fr fun fr => Q .normal ⟨fr, s.H, s.df⟩) : VDraw E N rd id ops Q s := by
  obtain ⟨fr', h1, h2⟩ := vq_ok h
  exact ⟨AWp.drawQ hm hB hd h1 h2⟩

/-- A quiet head, then the rest in order. -/
theorem VDraw.t (m : Bool) (n : Nat) {id : Nat} {ops : Array Oper} (hm : E.P.follows .mixedOrders = true) (hB : Region.lexTailB .any ops n = true) (hd : noDefer ops = true)
    (h : vq E m N s.H ops.toList (ops.toList.take n) s.fr fun fr => vops E m N ops.toList (ops.toList.drop n) fr s.H fun fr H => Q .normal ⟨fr, H, s.df⟩) : VDraw E N rd id ops Q s := by
  obtain ⟨fr', h1, h2⟩ := vq_ok h
  refine ⟨AWp.drawT n hm hB hd h1 ?_⟩
  have := vops_ok (ops := ops) (Q := Q) (rd := rd) (i := n) rfl h2
  simpa using this

/-! ### Functions -/
def vret (E : Env) (fn : Func) (R : AV → Heap → Prop) : Exit → St → Prop
  | .normal, s | .ret, s => match gone s.df s.H with
    | some H2 => match ares E s.fr H2 fn.results.toList with
      | some v => v.force fun v' => forceH H2 (R v')
      | none => False
    | none => False
  | _, _ => False

theorem vret_ok {fn : Func} {R : AV → Heap → Prop} {e : Exit} (h : vret E fn R e s) : RetPost E fn R e s := by
  unfold vret at h
  have key : ∀ {X : Prop}, (match gone s.df s.H with
    | some H2 => match ares E s.fr H2 fn.results.toList with
      | some v => v.force fun v' => forceH H2 (R v')
      | none => False
    | none => False) → ∃ H2 v, gone s.df s.H = some H2 ∧ ares E s.fr H2 fn.results.toList = some v ∧ R v H2 := by
    intro X h
    split at h
    · rename_i H2 h1
      split at h
      · rename_i v h2
        exact ⟨H2, v, h1, h2, of_forceH (AV.of_force (Q := fun v' => forceH H2 (R v')) h)⟩
      · exact h.elim
    · exact h.elim
  split at h
  · exact key (X := True) h
  · exact key (X := True) h
  · exact h.elim

theorem VCall.of_body (m : Bool) {g : FuncId} {fn : Func} {c : Code} {args : List AV} {H : Heap} {R : AV → Heap → Prop} (hf : E.P.funcs[g]? = some fn) (hb : fn.body = some c) (hname : (fn.name == "runtime.NumGoroutine") = false)
    (hn : Nat.ble args.length fn.ntmps = true) (h : vcode E m fn.ntmps none c (vret E fn R) ⟨mkFr 0 args, H, []⟩) : VCall E g args H R :=
  ⟨⟨fn, hf, by rw [hb]; rfl, hname⟩, ACall.of_body hf hb (Nat.le_of_ble_eq_true hn) ((vcode_ok h).mono fun e s q => vret_ok q)⟩

theorem VCall.mono {g : FuncId} {args : List AV} {H : Heap} {R R' : AV → Heap → Prop} (hq : ∀ v H, R v H → R' v H) (h : VCall E g args H R) : VCall E g args H R' := ⟨h.ok, h.call.mono hq⟩

/-! ### Loops -/
def vsub : Fr → Fr → Prop
  | [], _ => True
  | (k, v) :: r, fr => lk fr k = some v ∧ vsub r fr
theorem vsub_ok : ∀ {fr0 fr : Fr}, vsub fr0 fr → ∀ k v, lk fr0 k = some v → lk fr k = some v
  | [], fr, h, k, v, e => by cases e
  | (k0, v0) :: r, fr, h, k, v, e => by
    simp only [lk] at e
    split at e
    · rename_i hk; subst hk; cases e; exact h.1
    · exact vsub_ok h.2 k v e

theorem AWp.forget {c : Code} {fr0 : Fr} (h : AWp E N rd c Q ⟨fr0, s.H, s.df⟩) (hs : vsub fr0 s.fr) : AWp E N rd c Q s :=
  fun K ro a w hr => h K ro a w ⟨hr.H, hr.F.sub (vsub_ok hs), hr.D, hr.R⟩

structure Meets (s0 s : St) : Prop where
  fr : vsub s0.fr s.fr
  H : s.H = s0.H
  df : s.df = s0.df

/-- On with the walk. -/
theorem VNext.go (m : Bool) {c : Code} (h : vcode E m N rd c Q s) : VNext E N rd c Q s := ⟨vcode_ok h⟩
/-- On with the walk, from a state that is said anew. -/
theorem VNext.at_ (m : Bool) {c : Code} (s0 : St) (hm : Meets s0 s) (h : vcode E m N rd c Q s0) : VNext E N rd c Q s := by
  have h1 := vcode_ok h
  have e : s0 = ⟨s0.fr, s.H, s.df⟩ := by rw [hm.H, hm.df]
  rw [e] at h1
  exact ⟨h1.forget hm.fr⟩

theorem VLoop.ix {c : Code} {ι : Type} (m : Bool) (st : ι → St) (inv : ι → Prop) (μ : ι → Nat) (x0 : ι) (h0 : inv x0) (hm : Meets (st x0) s)
    (round : ∀ x, inv x → vcode E m N rd c (Then (fun s' => ∃ y, inv y ∧ μ y < μ x ∧ Meets (st y) s') Q) (st x)) : VLoop E N rd c Q s := by
  refine ⟨AWp.loop (fun j s' => ∃ x, inv x ∧ μ x = j ∧ Meets (st x) s') (n0 := μ x0) ⟨x0, h0, rfl, hm⟩ ?_⟩
  rintro j s' ⟨x, hx, rfl, hmx⟩
  have h1 := vcode_ok (round x hx)
  have h2 : AWp E N rd c (Then (fun s' => ∃ k, k < μ x ∧ ∃ y, inv y ∧ μ y = k ∧ Meets (st y) s') Q) (st x) := h1.mono fun e s2 q => by
    cases e with
    | normal => obtain ⟨y, hy, hlt, hmy⟩ := q; exact ⟨μ y, hlt, y, hy, rfl, hmy⟩
    | _ => exact q
  have e : st x = ⟨(st x).fr, s'.H, s'.df⟩ := by rw [hmx.H, hmx.df]
  rw [e] at h2
  exact h2.forget hmx.fr

end

end Go.Proofs.Ytcdnonggajoghaa
