/- Regions that draw their order: operations that leave memory alone are taken first, the others in every order; what was made may be numbered anew. -/
import Derived.Test.YtcdnonggajoghaaV7
namespace Go.Proofs.Ytcdnonggajoghaa
open Go Go.RowKit
set_option linter.unusedVariables false
set_option linter.unusedSimpArgs false

def takeL (ops : Array Oper) : List Nat → Array Bool → Bool
  | [], _ => true
  | k :: ks, listed => (Region.ready .any ops listed).contains k && Region.free .any ops listed k && takeL ops ks (listed.setIfInBounds k true)
def setL : List Nat → Array Bool → Array Bool
  | [], l => l
  | k :: ks, l => setL ks (l.setIfInBounds k true)

def vp2 (E : Env) (fr : Fr) (Q : AV → Prop) (op : Op) : Prop :=
  match op with
  | .call { callee := .builtin .len, args, argTypes } => match evs E fr args.toList, argTypes.toList with
    | some [.dsl cs len], [t] => match E.un t with
      | some (.slice _) => Q (.int .i64 len)
      | _ => False
    | some [.nsl], [t] => match E.un t with
      | some (.slice _) => Q (.int .i64 0)
      | _ => False
    | _, _ => False
  | .slice t x lo hi none => match ev E fr x, evo E fr lo, evo E fr hi with
    | some (.dsl cs len), some l, some h => match E.un t with
      | some (.slice _) => vslice E [] Q t (.dsl cs len) l h
      | _ => False
    | _, _, _ => False
  | op => vp E fr Q op

def vtakeL (E : Env) (N : Nat) (ops : List Oper) : List Nat → Fr → (Fr → Prop) → Prop
  | [], fr, K => K fr
  | k :: r, fr, K => match ops[k]? with
    | some o => match o.guard with
      | none => vp2 E fr (fun v => vput N fr o.dst v fun fr' => vtakeL E N ops r fr' K) o.op
      | some _ => False
    | none => False

section
variable {E : Env} {m : Bool} {N : Nat} {rd ro : Option Nat} {fr : Fr} {H : Heap} {K : Conc} {w : World} {a : Act} {ops : Array Oper}

theorem aslice_dsl {t el : TypeId} {cs : List AV} {len : Nat} {v : AV} {xv : Value} {lo hi : Option AV} {lv hv : Option Value} (hu : E.un t = some (.slice el)) (hx : VR K (.dsl cs len) xv)
    (hlo : (lo = none ∧ lv = none) ∨ ∃ a u, lo = some a ∧ lv = some u ∧ VR K a u) (hhi : (hi = none ∧ hv = none) ∨ ∃ a u, hi = some a ∧ hv = some u ∧ VR K a u)
    (h : aslice E [] t (.dsl cs len) lo hi = some v) : ∃ cv, VR K v cv ∧ ∀ w, (Instr.sliceAt t xv lv hv none).run E.P w = .ok cv w := by
  unfold aslice at h
  simp only [hu] at h
  split at h
  · rename_i hh ll y e1 e2 hy
    have b1 := bound_sound hhi e1
    have b2 := bound_sound hlo e2
    split at h
    · rename_i hb
      cases h
      simp only [VR] at hx
      obtain ⟨ao, c, rfl, hlc, hcr⟩ := hx
      refine ⟨.slice (if c = ll then ao else ao.map (·.add (ll * y.size))) (hh - ll) (c - ll), ⟨_, _, rfl, by omega, fun hne => ?_⟩, fun w => ?_⟩
      · have hne' : cs ≠ [] := by rintro rfl; simp at hne
        obtain ⟨b, o, rfl, hcc⟩ := hcr hne'
        have hlt : ll < hh := by
          rcases Nat.lt_or_ge ll hh with h' | h'
          · exact h'
          · have : hh - ll = 0 := by omega
            rw [this] at hne
            simp at hne
        have : ¬ c = ll := by omega
        refine ⟨b, o + ll * y.size, by simp [this, add_off], (hcc.drop _).take _⟩
      · have hr := run_bounds (E := E) (w := w) (isS := true) b2 b1 hb.1 hb.2 hlc
        simp [Instr.sliceAt, Instr.slice, run_underlying (Env.un_ok hu), hr, run_sizeOf' (E.ti_ok _ _ hy)]
    · cases h
  · cases h

theorem vp2_ok (hH : HR E K H w) (hF : FR K N fr a.tmps) {Q : AV → Prop} {o : Oper} (h : vp2 E fr Q o.op) :
    ∃ v cv, Q v ∧ VR K v cv ∧ (∀ w, (execOp a.eval o).run E.P w = .ok (.value cv) w) ∧ ∀ w, o.about E.P w a.eval = none := by
  obtain ⟨dst, op, ty, pos, after, guard⟩ := o
  dsimp only at h
  unfold vp2 at h
  split at h
  · rename_i args ts
    have lenrun : ∀ {t : TypeId} {x : AV} {xs : List AV} {len : Nat} {el : TypeId}, evs E fr args.toList = some [x] → ts.toList = [t] → E.un t = some (.slice el) → (∀ xv, VR K x xv → ∃ a c, xv = .slice a len c) →
        ∀ w, (execOp a.eval ⟨dst, .call { callee := .builtin .len, args := args, argTypes := ts }, ty, pos, after, guard⟩).run E.P w = .ok (.value (.int .i64 len)) w := by
      intro t x xs len el he ht hu hx w
      have e1 := evs_sound hH hF he
      simp only [VRL] at e1
      obtain ⟨u, us, e2, hv, rfl⟩ := e1
      have ha : args.map a.eval = #[u] := by apply Array.ext'; simpa using e2
      have hts : ts = #[t] := by apply Array.ext'; simpa using ht
      obtain ⟨ao, c, rfl⟩ := hx u hv
      subst hts
      have : (Builtin.len_ #[t] ty #[.slice ao len c]).run E.P w = .ok (.int .i64 len) w := by
        simp [Builtin.len_, run_underlying (Env.un_ok hu), goInt]
      simp [execOp, resolve, invoke, builtin, ha, this]
    split at h
    · rename_i cs len t he ht
      split at h
      · rename_i el hu
        exact ⟨_, .int .i64 len, h, rfl, lenrun (xs := []) he ht hu (fun xv hx => by simp only [VR] at hx; obtain ⟨a, c, rfl, _⟩ := hx; exact ⟨a, c, rfl⟩), fun w => rfl⟩
      · exact h.elim
    · rename_i t he ht
      split at h
      · rename_i el hu
        exact ⟨_, .int .i64 (0 : Nat), h, rfl, lenrun (xs := []) he ht hu (fun xv hx => by simp only [VR] at hx; subst hx; exact ⟨_, _, rfl⟩), fun w => rfl⟩
      · exact h.elim
    · exact h.elim
  · rename_i t x lo hi
    split at h
    · rename_i cs len l hh h1 h2 h3
      split at h
      · rename_i el hu
        obtain ⟨v, h4, h5⟩ := vslice_ok h
        obtain ⟨cv, r1, r2⟩ := aslice_dsl hu (ev_sound hH hF h1) (evo_sound hH hF h2) (evo_sound hH hF h3) h4
        refine ⟨v, cv, h5, r1, fun w => ?_, fun w => rfl⟩
        have := r2 w
        simp only [execOp]
        simp [this]
      · exact h.elim
    · exact h.elim
  · exact vp_ok hH hF (o := ⟨dst, op, ty, pos, after, guard⟩) h

theorem vtakeL_ok {K0 : Conc} {df : List Nat} {Kc : Fr → Heap → Prop} {Kf : Fr → Prop} {g : Nat} (hs : Region.noSelect ops = true) :
    ∀ {l : List Nat} {listed : Array Bool} {fr : Fr} {a : Act}, takeL ops l listed = true → SR E K N rd ro ⟨fr, H, df⟩ a w → vtakeL E N ops.toList l fr Kf →
    (∀ fr' a', SR E K N rd ro ⟨fr', H, df⟩ a' w → Kf fr' → wpAnyIn Fence.wide 0 E.P .any ops (XPost E K0 N rd ro df Kc) g (setL l listed) a' w) →
    wpAnyIn Fence.wide 0 E.P .any ops (XPost E K0 N rd ro df Kc) (l.length + g) listed a w
  | [], listed, fr, a, hB, hr, h, hk => by
    rw [List.length_nil, Nat.zero_add]
    exact hk fr a hr h
  | k :: l, listed, fr, a, hB, hr, h, hk => by
    simp only [takeL, Bool.and_eq_true] at hB
    simp only [vtakeL] at h
    split at h
    · rename_i o h0
      rw [Array.getElem?_toList] at h0
      split at h
      · rename_i hg
        obtain ⟨v, cv, hq, hv, hrun, hab⟩ := vp2_ok hr.H hr.F h
        obtain ⟨fr', h5, h6⟩ := vput_ok hq
        rw [List.length_cons, show l.length + 1 + g = (l.length + g) + 1 by omega]
        refine wpAnyIn_take (F := Fence.wide) (v := cv) rfl h0 hs hB.1.2 hB.1.1 (fun c a w hh => by cases hh.1) ⟨.inl ⟨by simp [Region.wanted, hg], hrun⟩, hab⟩ ?_
        exact vtakeL_ok hs hB.2 (fr := fr') ⟨hr.H, putd_sound hr.F hv h5, by cases o.dst <;> exact hr.D, hr.R⟩ h6 hk
      · exact h.elim
    · exact h.elim

theorem vall.two' {listed : Array Bool} {g i i' : Nat} {o o' : Oper} {Kc : Fr → Heap → Prop} (hr : Region.ready .any ops listed = [i, i']) (ho : ops.toList[i]? = some o) (ho' : ops.toList[i']? = some o')
    (h : vgd ops.toList fr o.guard (vopN E m fr H (fun v H' => vput N fr o.dst v fun fr' => vall E m N ops g (listed.setIfInBounds i true) fr' H' Kc) o.op o.type)
        (vput N fr o.dst (.tup []) fun fr' => vall E m N ops g (listed.setIfInBounds i true) fr' H Kc))
    (h' : vgd ops.toList fr o'.guard (vopN E m fr H (fun v H' => vput N fr o'.dst v fun fr' => vall E m N ops g (listed.setIfInBounds i' true) fr' H' Kc) o'.op o'.type)
        (vput N fr o'.dst (.tup []) fun fr' => vall E m N ops g (listed.setIfInBounds i' true) fr' H Kc)) : vall E m N ops (g + 1) listed fr H Kc :=
  vall.two hr (by rwa [Array.getElem?_toList] at ho) (by rwa [Array.getElem?_toList] at ho') h h'

/-- One step of 'vall', as it unfolds. -/
theorem vall.s1 {listed : Array Bool} {g i : Nat} {o : Oper} {Kc : Fr → Heap → Prop} (hr : Region.ready .any ops listed = [i]) (ho : ops.toList[i]? = some o)
    (h : vgd ops.toList fr o.guard (vopN E m fr H (fun v H' => vput N fr o.dst v fun fr' => vall E m N ops g (listed.setIfInBounds i true) fr' H' Kc) o.op o.type)
        (vput N fr o.dst (.tup []) fun fr' => vall E m N ops g (listed.setIfInBounds i true) fr' H Kc)) :
    Region.ready .any ops listed ≠ [] ∧ ∀ i ∈ Region.ready .any ops listed, ∃ o, ops[i]? = some o ∧
      vgd ops.toList fr o.guard (vopN E m fr H (fun v H' => vput N fr o.dst v fun fr' => vall E m N ops g (listed.setIfInBounds i true) fr' H' Kc) o.op o.type)
        (vput N fr o.dst (.tup []) fun fr' => vall E m N ops g (listed.setIfInBounds i true) fr' H Kc) :=
  vall.one hr (by rwa [Array.getElem?_toList] at ho) h
theorem vall.s2 {listed : Array Bool} {g i i' : Nat} {o o' : Oper} {Kc : Fr → Heap → Prop} (hr : Region.ready .any ops listed = [i, i']) (ho : ops.toList[i]? = some o) (ho' : ops.toList[i']? = some o')
    (h : vgd ops.toList fr o.guard (vopN E m fr H (fun v H' => vput N fr o.dst v fun fr' => vall E m N ops g (listed.setIfInBounds i true) fr' H' Kc) o.op o.type)
        (vput N fr o.dst (.tup []) fun fr' => vall E m N ops g (listed.setIfInBounds i true) fr' H Kc))
    (h' : vgd ops.toList fr o'.guard (vopN E m fr H (fun v H' => vput N fr o'.dst v fun fr' => vall E m N ops g (listed.setIfInBounds i' true) fr' H' Kc) o'.op o'.type)
        (vput N fr o'.dst (.tup []) fun fr' => vall E m N ops g (listed.setIfInBounds i' true) fr' H Kc)) :
    Region.ready .any ops listed ≠ [] ∧ ∀ i ∈ Region.ready .any ops listed, ∃ o, ops[i]? = some o ∧
      vgd ops.toList fr o.guard (vopN E m fr H (fun v H' => vput N fr o.dst v fun fr' => vall E m N ops g (listed.setIfInBounds i true) fr' H' Kc) o.op o.type)
        (vput N fr o.dst (.tup []) fun fr' => vall E m N ops g (listed.setIfInBounds i true) fr' H Kc) :=
  vall.two' hr ho ho' h h'

/-- The listed operations first; then every order of the other g leads to s0, up to the numbers of what was made. -/
theorem VDraw.xt (m : Bool) (ks : List Nat) (g : Nat) (s0 : St) {s : St} {id : Nat} {Q : Exit → St → Prop} (hrd : ∀ b, rd = some b → b < s.H.length) (hm : E.P.follows .mixedOrders = true) (hs : Region.noSelect ops = true) (hd : noDefer ops = true)
    (hB : takeL ops ks (Array.replicate ops.size false) = true) (hn : Nat.beq (ks.length + g) ops.size = true)
    (h : vtakeL E N ops.toList ks s.fr fun fr => vall E m N ops g (setL ks (Array.replicate ops.size false)) fr s.H fun fr H => ∃ σ, Trunc s.H.length σ ⟨fr, H, s.df⟩ s0) (hQ : Q .normal s0) : VDraw E N rd id ops Q s := by
  refine ⟨fun K ro a w hr => ?_⟩
  have hn := Nat.eq_of_beq_eq_true hn
  have hr' : SR E K N rd ro ⟨s.fr, s.H, s.df⟩ a w.drew := ⟨hr.H.drew, hr.F, hr.D, hr.R⟩
  have hw := vtakeL_ok (g := g) (K0 := K) (Kc := fun fr H => ∃ σ, Trunc s.H.length σ ⟨fr, H, s.df⟩ s0) hs hB hr' h (fun fr' a' hr2 hk => vall_ok (Ext.refl K) hr2 hk)
  rw [hn] at hw
  have hw2 := wpAnyIn_ro (ro := ro) hd hw
  refine wpIn_mono (wpIn_region_any hm hw2) fun e a' w' q => ?_
  obtain ⟨rfl, K', fr', H', hx, hr2, σ, ht⟩ := q
  obtain ⟨K3, hr3, hx3⟩ := hr2.cut hrd ht
  exact ⟨K3, s0, hx3 K hx (by rw [hr.H.len]; exact Nat.le_refl _), hr3, hQ⟩

end

end Go.Proofs.Ytcdnonggajoghaa
