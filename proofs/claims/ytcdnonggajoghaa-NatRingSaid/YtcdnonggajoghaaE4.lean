/- Operations over abstract values, part 3: the machine's come to the same (those that leave the memory alone). -/
import Derived.Test.YtcdnonggajoghaaE3
namespace Go.Proofs.Ytcdnonggajoghaa
open Go Go.RowKit
set_option linter.unusedVariables false
set_option linter.unusedSimpArgs false

theorem add_off (b o j : Nat) : (⟨b, o, none⟩ : Addr).add j = ⟨b, o + j, none⟩ := by unfold Addr.add; split <;> simp_all

def QOK (E : Env) (K : Conc) (w : World) (s : Sem Value) (v : AV) : Prop := ∃ cv, s.run E.P w = .ok cv w ∧ VR K v cv

section
variable {E : Env} {K : Conc} {H : Heap} {w : World} {N : Nat} {fr : Fr} {a : Act}

theorem ev_sound (hH : HR E K H w) (hF : FR K N fr a.tmps) {x : Operand} {v : AV} (h : ev E fr x = some v) : VR K v (a.eval x) := by
  cases x with
  | tmp t => exact hF.2 t v h
  | const u => exact ofV_sound h
  | global g =>
    obtain ⟨cs, h1, h2⟩ := Option.map_eq_some_iff.1 h
    subst h2
    exact ⟨g, 0, rfl, hH.glob g cs h1⟩
  | func f =>
    simp only [ev] at h
    cases h
    exact ⟨fun l => (by simp), #[], #[], rfl, rfl, rfl⟩

theorem evs_sound (hH : HR E K H w) (hF : FR K N fr a.tmps) : ∀ {xs : List Operand} {vs : List AV}, evs E fr xs = some vs → VRL K vs (xs.map a.eval)
  | [], vs, h => by simp only [evs] at h; cases h; rfl
  | x :: xs, vs, h => by
    simp only [evs] at h
    split at h
    · rename_i u us h1 h2
      cases h
      exact ⟨_, _, rfl, ev_sound hH hF h1, evs_sound hH hF h2⟩
    · cases h

theorem evp_sound (hH : HR E K H w) (hF : FR K N fr a.tmps) : ∀ {xs : List (Nat × Operand)} {vs : List (Nat × AV)}, evp E fr xs = some vs →
    vs.map (·.1) = xs.map (·.1) ∧ VRL K (vs.map (·.2)) (xs.map fun p => a.eval p.2)
  | [], vs, h => by simp only [evp] at h; cases h; exact ⟨rfl, rfl⟩
  | (i, x) :: xs, vs, h => by
    simp only [evp] at h
    split at h
    · rename_i u us h1 h2
      cases h
      obtain ⟨i1, i2⟩ := evp_sound hH hF h2
      exact ⟨by simp [i1], _, _, rfl, ev_sound hH hF h1, i2⟩
    · cases h

theorem live_spec {b ver : Nat} (hH : HR E K H w) (h : live H b ver = true) : ∃ i arr e cs, H[b]? = some (.cells ver e cs) ∧ K.blk[b]? = some i ∧ i.ver = ver ∧
    w.heap[i.c]? = some (.cells arr e (0, 0)) ∧ arr.size = i.room ∧ cs.all AV.one = true ∧ cs.length ≤ arr.size ∧ VRL K cs (arr.toList.take cs.length) := by
  unfold live at h
  split at h
  · rename_i v e cs hb
    have hv : v = ver := by simpa using h
    subst hv
    obtain ⟨i, hi, ho⟩ := hH.info hb
    obtain ⟨h1, arr, h2, h3, h4, h5, h6⟩ := ho
    exact ⟨i, arr, e, cs, hb, hi, h1, h2, h3, h4, h5, h6⟩
  · cases h

theorem live_of {b ver e : Nat} {cs : List AV} (h : H[b]? = some (.cells ver e cs)) : live H b ver = true := by simp [live, h]

theorem VR.ptr_eq {b ver off : Nat} {v : Value} {i : BI} (h : VR K (.ptr b ver off) v) (hb : K.blk[b]? = some i) (hv : i.ver = ver) : v = .pointer (some ⟨i.c, off, none⟩) := by
  simp only [VR] at h
  obtain ⟨_, j, h1, _, h3⟩ := h
  have : j = i := Option.some.inj (h1.symm.trans hb)
  subst this
  exact h3 hv

theorem VR.osl_eq {b ver off len sz : Nat} {v : Value} {i : BI} (h : VR K (.osl b ver off len sz) v) (hb : K.blk[b]? = some i) (hv : i.ver = ver) :
    ∃ cap, v = .slice (some ⟨i.c, off, none⟩) len cap ∧ len ≤ cap ∧ cap ≤ maxLen ∧ off + cap * sz = i.room := by
  simp only [VR] at h
  obtain ⟨_, j, h1, _, h3⟩ := h
  have : j = i := Option.some.inj (h1.symm.trans hb)
  subst this
  exact h3 hv

theorem VR.mk_ptr {b ver off : Nat} {i : BI} (hb : K.blk[b]? = some i) (hv : i.ver = ver) : VR K (.ptr b ver off) (.pointer (some ⟨i.c, off, none⟩)) :=
  ⟨rfl, i, hb, by omega, fun _ => rfl⟩
theorem VR.mk_osl {b ver off len sz cap : Nat} {i : BI} (hb : K.blk[b]? = some i) (hv : i.ver = ver) (hl : len ≤ cap) (hm : cap ≤ maxLen) (hr : off + cap * sz = i.room) :
    VR K (.osl b ver off len sz) (.slice (some ⟨i.c, off, none⟩) len cap) :=
  ⟨rfl, i, hb, by omega, fun _ => ⟨cap, rfl, hl, hm, hr⟩⟩

/-- What a pointer leads to, in the machine's world. -/
theorem cellsAt_spec (hH : HR E K H w) {p : AV} {pv : Value} {cs : List AV} (hp : VR K p pv) (h : cellsAt H p = some cs) :
    ∃ b o us, pv = .pointer (some ⟨b, o, none⟩) ∧ VRL K cs us ∧ (∀ j u, us[j]? = some u → w.cell? ⟨b, o + j, none⟩ = some u) ∧ cs.all AV.one = true := by
  unfold cellsAt at h
  split at h
  · rename_i b ver off
    split at h
    · rename_i v e cs' hb
      split at h
      · rename_i hv
        subst hv
        cases h
        obtain ⟨i, arr, e', cs'', hb', hi, hver, harr, hsz, hone, hlen, hvr⟩ := live_spec hH (live_of hb)
        rw [hb] at hb'
        cases hb'
        have hpv := hp.ptr_eq hi hver
        refine ⟨i.c, off, (arr.toList.take cs'.length).drop off, hpv, hvr.drop off, fun j u hu => ?_, ?_⟩
        · rw [List.getElem?_drop, List.getElem?_take] at hu
          split at hu
          · simp [World.cell?, harr]
            simpa using hu
          · cases hu
        · rw [List.all_eq_true] at hone ⊢
          exact fun x hx => hone x (List.mem_of_mem_drop hx)
      · cases h
    · cases h
  · rename_i cs'
    cases h
    simp only [VR] at hp
    obtain ⟨b, o, rfl, hc⟩ := hp
    obtain ⟨us, h1, h2, h3⟩ := hc.values
    exact ⟨b, o, us, rfl, h1, fun j u hu => hH.imm _ _ _ (h2 j u hu), h3⟩
  · cases h

theorem run_isAgg {P : Program} {t : TypeId} {x : TI} (h : tinfo P t = some x) (w : World) : (isAgg t).run P w = .ok x.isAgg w := by
  obtain ⟨i, z, h1, h2, h3, h4, h5, h6, h7, h8⟩ := tinfo_spec h
  unfold isAgg TI.isAgg descAgg
  simp only [Sem.run_bind, run_underlying h2, Result.andThen_ok]
  split <;> simp_all

theorem run_sizeOf' {P : Program} {t : TypeId} {x : TI} (h : tinfo P t = some x) (w : World) : (sizeOf t).run P w = .ok x.size w := by
  obtain ⟨i, z, h1, h2, h3, h4, h5, h6, h7, h8⟩ := tinfo_spec h
  simp [sizeOf, typeInfo, h1, h5]

theorem aload_sound (hH : HR E K H w) {t : TypeId} {p v : AV} {pv : Value} (hp : VR K p pv) (h : aload E H t p = some v) : QOK E K w (Instr.loadAt t pv) v := by
  unfold aload at h
  split at h
  · rename_i x cs hx hc
    obtain ⟨b, o, us, rfl, h1, h2, h3⟩ := cellsAt_spec hH hp hc
    have hlen := h1.length
    split at h
    · rename_i hagg
      split at h
      · rename_i hsz
        cases h
        refine ⟨.agg (us.take x.size).toArray, ?_, ?_, _, rfl, by simpa using h1.take x.size⟩
        · have hl : (us.take x.size).length = x.size := by simp; omega
          have hlc := run_loadCells_list (P := E.P) w ⟨b, o, none⟩ (us.take x.size) (fun j u hu => by
            rw [add_off]
            rw [List.getElem?_take] at hu
            split at hu
            · exact h2 j u hu
            · cases hu)
          rw [hl] at hlc
          simp [Instr.loadAt, Instr.sureAddr, loadVar, run_isAgg (E.ti_ok _ _ hx), hagg, run_sizeOf' (E.ti_ok _ _ hx), hlc]
        · rw [List.all_eq_true] at h3 ⊢
          exact fun y hy => h3 y (List.mem_of_mem_take hy)
      · cases h
    · rename_i hagg
      cases cs with
      | nil => cases h
      | cons c cs =>
        simp at h
        subst h
        simp only [VRL] at h1
        obtain ⟨u, us', rfl, h4, h5⟩ := h1
        refine ⟨u, ?_, h4⟩
        have := h2 0 u rfl
        simp [Instr.loadAt, Instr.sureAddr, loadVar, run_isAgg (E.ti_ok _ _ hx), hagg]
        simp at this
        simp [this]
  · cases h

theorem apart_sound {t : TypeId} {cs : List AV} {us : Array Value} {off : Nat} {v : AV} (hone : cs.all AV.one = true) (hc : VRL K cs us.toList) (h : apart E t cs off = some v) : QOK E K w (part t us off) v := by
  unfold apart at h
  split at h
  · rename_i x hx
    split at h
    · rename_i hagg
      cases h
      refine ⟨.agg (us.extract off (off + x.size)), by simp [part, run_isAgg (E.ti_ok _ _ hx), hagg, run_sizeOf' (E.ti_ok _ _ hx)], ?_, _, rfl, ?_⟩
      · rw [List.all_eq_true] at hone ⊢
        exact fun y hy => hone y (List.mem_of_mem_take (List.mem_of_mem_drop hy))
      · have := (hc.take (off + x.size)).drop off
        rw [Array.toList_extract]
        have e : us.toList.extract off (off + x.size) = (us.toList.take (off + x.size)).drop off := by simp [List.extract_eq_take_drop, List.drop_take]
        rw [e]
        exact this
    · rename_i hagg
      obtain ⟨u, h1, h2⟩ := hc.get off v h
      refine ⟨u, ?_, h2⟩
      have : us[off]? = some u := by simpa using h1
      simp [part, run_isAgg (E.ti_ok _ _ hx), hagg, this]
  · cases h

theorem afield_sound {s : TypeId} {x v : AV} {xv : Value} {f : Nat} (hx : VR K x xv) (h : afield E s x f = some v) : QOK E K w (Instr.field s xv f) v := by
  unfold afield at h
  split at h
  · rename_i fields cs hu
    split at h
    · rename_i fd hf
      simp only [VR] at hx
      obtain ⟨ho, us, rfl, hc⟩ := hx
      obtain ⟨cv, h1, h2⟩ := apart_sound (w := w) ho hc h
      exact ⟨cv, by simp [Instr.field, run_underlying (Env.un_ok hu), hf, asAgg, h1], h2⟩
    · cases h
  · cases h

theorem afieldAddr_sound (hH : HR E K H w) {s : TypeId} {p v : AV} {pv : Value} {f : Nat} (hp : VR K p pv) (h : afieldAddr E H s p f = some v) : QOK E K w (Instr.fieldAt s pv f) v := by
  unfold afieldAddr at h
  split at h
  · rename_i fields hu
    split at h
    · rename_i fd hf
      split at h
      · rename_i x hx
        split at h
        · cases h
        · rename_i hsz
          split at h
          · rename_i b ver off
            split at h
            · rename_i hl
              cases h
              obtain ⟨i, arr, e', cs'', hb', hi, hver, _⟩ := live_spec hH hl
              have := hp.ptr_eq hi hver
              subst this
              exact ⟨_, by simp [Instr.fieldAt, run_underlying (Env.un_ok hu), hf, Instr.sureAddr, fieldPlace, run_sizeOf' (E.ti_ok _ _ hx), hsz, add_off], VR.mk_ptr hi hver⟩
            · cases h
          · rename_i cs
            cases h
            simp only [VR] at hp
            obtain ⟨b, o, rfl, hc⟩ := hp
            exact ⟨_, by simp [Instr.fieldAt, run_underlying (Env.un_ok hu), hf, Instr.sureAddr, fieldPlace, run_sizeOf' (E.ti_ok _ _ hx), hsz, add_off], b, _, rfl, hc.drop _⟩
          · cases h
      · cases h
    · cases h
  · cases h

theorem aindexAddr_sound (hH : HR E K H w) {t : TypeId} {x ix v : AV} {xv iv : Value} (hx : VR K x xv) (hi : VR K ix iv) (h : aindexAddr E H t x ix = some v) : QOK E K w (Instr.indexAt t xv iv) v := by
  unfold aindexAddr at h
  split at h
  · rename_i elem k i hu
    simp only [VR] at hi
    subst hi
    split at h
    · rename_i y hy
      split at h
      · rename_i b ver off len sz
        split at h
        · rename_i hc
          obtain ⟨hl, rfl, h0, h1⟩ := hc
          cases h
          obtain ⟨j, arr, e', cs'', hb', hj, hver, _⟩ := live_spec hH hl
          obtain ⟨cap, rfl, _⟩ := hx.osl_eq hj hver
          refine ⟨_, ?_, VR.mk_ptr hj hver⟩
          simp [Instr.indexAt, asIntOf, run_underlying (Env.un_ok hu), h0, h1, run_sizeOf' (E.ti_ok _ _ hy), add_off]
        · cases h
      · rename_i cs len
        split at h
        · rename_i hc
          obtain ⟨h0, h1, h2⟩ := hc
          cases h
          simp only [VR] at hx
          obtain ⟨ao, c, rfl, _, hcr0⟩ := hx
          obtain ⟨b, o, rfl, hcr⟩ := hcr0 (by intro hh; subst hh; simp at h2)
          refine ⟨_, ?_, b, _, rfl, hcr.drop _⟩
          simp [Instr.indexAt, asIntOf, run_underlying (Env.un_ok hu), h0, h1, run_sizeOf' (E.ti_ok _ _ hy), add_off]
        · cases h
      · cases h
    · cases h
  · rename_i n elem k i hu
    simp only [VR] at hi
    subst hi
    split at h
    · rename_i y hy
      split at h
      · rename_i hc
        obtain ⟨h0, h1⟩ := hc
        split at h
        · rename_i b ver off
          split at h
          · rename_i hl
            cases h
            obtain ⟨j, arr, e', cs'', hb', hj, hver, _⟩ := live_spec hH hl
            have := hx.ptr_eq hj hver
            subst this
            refine ⟨_, ?_, VR.mk_ptr hj hver⟩
            simp [Instr.indexAt, asIntOf, run_underlying (Env.un_ok hu), h0, h1, run_sizeOf' (E.ti_ok _ _ hy), add_off, Instr.sureAddr]
          · cases h
        · rename_i cs
          cases h
          simp only [VR] at hx
          obtain ⟨b, o, rfl, hc⟩ := hx
          refine ⟨_, ?_, b, _, rfl, hc.drop _⟩
          simp [Instr.indexAt, asIntOf, run_underlying (Env.un_ok hu), h0, h1, run_sizeOf' (E.ti_ok _ _ hy), add_off, Instr.sureAddr]
        · cases h
      · cases h
    · cases h
  · cases h

theorem aindex_sound {t : TypeId} {x ix v : AV} {xv iv : Value} (hx : VR K x xv) (hi : VR K ix iv) (h : aindex E t x ix = some v) : QOK E K w (Instr.index t xv iv) v := by
  unfold aindex at h
  split at h
  · rename_i n elem cs k i hu
    simp only [VR] at hi hx
    subst hi
    obtain ⟨ho, us, rfl, hc⟩ := hx
    split at h
    · rename_i y hy
      split at h
      · rename_i hb
        obtain ⟨cv, h1, h2⟩ := apart_sound (w := w) ho hc h
        exact ⟨cv, by simp [Instr.index, asIntOf, run_underlying (Env.un_ok hu), hb, run_sizeOf' (E.ti_ok _ _ hy), h1], h2⟩
      · cases h
    · cases h
  · rename_i s k i hu
    simp only [VR] at hi hx
    subst hi hx
    split at h
    · rename_i hb
      obtain ⟨c, h1, h2⟩ := Option.map_eq_some_iff.1 h
      subst h2
      refine ⟨.int .u8 c.toNat, ?_, rfl⟩
      simp [Instr.index, asIntOf, run_underlying (Env.un_ok hu), hb, h1]
    · cases h
  · cases h

theorem bound_sound {d : Nat} {x : Option AV} {xv : Option Value} {n : Nat} (hx : (x = none ∧ xv = none) ∨ ∃ a u, x = some a ∧ xv = some u ∧ VR K a u) (h : bound d x = some n) :
    (xv = none ∧ n = d) ∨ ∃ k, xv = some (.int k n) := by
  rcases hx with ⟨rfl, rfl⟩ | ⟨a, u, rfl, rfl, hr⟩
  · simp only [bound] at h
    cases h
    exact .inl ⟨rfl, rfl⟩
  · cases a <;> simp only [bound] at h <;> try cases h
    rename_i k i
    split at h
    · rename_i h0
      cases h
      simp only [VR] at hr
      subst hr
      exact .inr ⟨k, by simp [Int.toNat_of_nonneg h0]⟩
    · cases h

/-- The bounds of a slice expression, as the machine asks them. -/
theorem run_bounds {isS : Bool} {len cap l h : Nat} {lo hi : Option Value} (hl : (lo = none ∧ l = 0) ∨ ∃ k, lo = some (.int k l)) (hh : (hi = none ∧ h = len) ∨ ∃ k, hi = some (.int k h)) (h1 : l ≤ h) (h2 : h ≤ len) (h3 : len ≤ cap) :
    (Instr.sliceBounds isS len cap lo hi none).run E.P w = .ok (l, h, cap) w := by
  have key : ∀ (k : IntKind) (n y : Nat) (c : BoundsCode), n ≤ y → (Instr.sliceBound (.int k n) y c).run E.P w = .ok n w := by
    intro k n y c hn
    simp [Instr.sliceBound, asIntOf, hn]
  rcases hl with ⟨rfl, rfl⟩ | ⟨k, rfl⟩ <;> rcases hh with ⟨rfl, rfl⟩ | ⟨k', rfl⟩
  · simp [Instr.sliceBounds]
  · simp [Instr.sliceBounds, key k' h cap _ (by omega)]
  · simp [Instr.sliceBounds, key k l _ _ h1]
  · simp [Instr.sliceBounds, key k' h cap _ (by omega), key k l _ _ h1]

theorem aslice_sound (hH : HR E K H w) {t : TypeId} {x v : AV} {xv : Value} {lo hi : Option AV} {lv hv : Option Value} (hx : VR K x xv)
    (hlo : (lo = none ∧ lv = none) ∨ ∃ a u, lo = some a ∧ lv = some u ∧ VR K a u) (hhi : (hi = none ∧ hv = none) ∨ ∃ a u, hi = some a ∧ hv = some u ∧ VR K a u)
    (h : aslice E H t x lo hi = some v) : QOK E K w (Instr.sliceAt t xv lv hv none) v := by
  unfold aslice at h
  split at h
  · rename_i s hu
    simp only [VR] at hx
    subst hx
    split at h
    · rename_i hh ll e1 e2
      have b1 := bound_sound hhi e1
      have b2 := bound_sound hlo e2
      split at h
      · rename_i hb
        cases h
        have hr := run_bounds (E := E) (w := w) (isS := false) b2 b1 hb.1 hb.2 (Nat.le_refl _)
        exact ⟨_, by simp [Instr.sliceAt, Instr.slice, run_underlying (Env.un_ok hu), hr], rfl⟩
      · cases h
    · cases h
  · rename_i elem hu
    simp only [VR] at hx
    subst hx
    split at h
    · rename_i y e1 e2 hy
      have b1 := bound_sound hhi e1
      have b2 := bound_sound hlo e2
      cases h
      have hr := run_bounds (E := E) (w := w) (isS := true) (len := 0) (cap := 0) b2 b1 (Nat.le_refl _) (Nat.le_refl _) (Nat.le_refl _)
      exact ⟨_, by simp [Instr.sliceAt, Instr.slice, run_underlying (Env.un_ok hu), hr, run_sizeOf' (E.ti_ok _ _ hy)], rfl⟩
    · cases h
  · rename_i elem cs len hu
    split at h
    · rename_i hh ll y e1 e2 hy
      have b1 := bound_sound hhi e1
      have b2 := bound_sound hlo e2
      split at h
      · rename_i hb
        cases h
        simp only [VR] at hx
        obtain ⟨ao, c, rfl, hlc, hcr⟩ := hx
        have hr := run_bounds (E := E) (w := w) (isS := true) b2 b1 hb.1 hb.2 hlc
        refine ⟨.slice (if c = ll then ao else ao.map (·.add (ll * y.size))) (hh - ll) (c - ll), by simp [Instr.sliceAt, Instr.slice, run_underlying (Env.un_ok hu), hr, run_sizeOf' (E.ti_ok _ _ hy)], _, _, rfl, by omega, fun hne => ?_⟩
        have hne' : cs ≠ [] := by rintro rfl; simp at hne
        obtain ⟨b, o, rfl, hcc⟩ := hcr hne'
        have hlt : ll < hh := by
          rcases Nat.lt_or_ge ll hh with h' | h'
          · exact h'
          · have : hh - ll = 0 := by omega
            rw [this] at hne
            simp at hne
        have : ¬ c = ll := by omega
        refine ⟨b, o + ll * y.size, by simp [this, add_off], (hcc.drop _).take _⟩
      · cases h
    · cases h
  · rename_i elem b ver off len sz hu
    split at h
    · rename_i hh ll y e1 e2 hy
      have b1 := bound_sound hhi e1
      have b2 := bound_sound hlo e2
      split at h
      · rename_i hb
        obtain ⟨hl, rfl, hb1, hb2⟩ := hb
        obtain ⟨i, arr, e', cs'', hb', hi', hver, _⟩ := live_spec hH hl
        obtain ⟨cap, rfl, hc1, hc2, hc3⟩ := hx.osl_eq hi' hver
        have hr := run_bounds (E := E) (w := w) (isS := true) b2 b1 hb1 hb2 hc1
        have hrun : (Instr.sliceAt t (.slice (some ⟨i.c, off, none⟩) len cap) lv hv none).run E.P w =
            .ok (.slice (some (if cap = ll then ⟨i.c, off, none⟩ else ⟨i.c, off + ll * y.size, none⟩)) (hh - ll) (cap - ll)) w := by
          by_cases hcl : cap = ll
          · subst hcl
            simp [Instr.sliceAt, Instr.slice, run_underlying (Env.un_ok hu), hr, run_sizeOf' (E.ti_ok _ _ hy)]
          · simp [Instr.sliceAt, Instr.slice, run_underlying (Env.un_ok hu), hr, run_sizeOf' (E.ti_ok _ _ hy), hcl, add_off]
        split at h
        · rename_i h0
          subst h0
          cases h
          refine ⟨_, hrun, ?_⟩
          have e : (if cap = 0 then (⟨i.c, off, none⟩ : Addr) else ⟨i.c, off + 0 * y.size, none⟩) = ⟨i.c, off, none⟩ := by split <;> simp
          rw [e]
          exact VR.mk_osl hi' hver (by omega) (by omega) (by simpa using hc3)
        · rename_i h0
          split at h
          · rename_i hlt
            cases h
            refine ⟨_, hrun, ?_⟩
            rw [if_neg (by omega)]
            refine VR.mk_osl hi' hver (by omega) (by omega) ?_
            rw [← hc3, Nat.add_assoc, ← Nat.add_mul]
            congr 2
            omega
          · rename_i hlt
            cases h
            have : hh - ll = 0 := by omega
            rw [this] at hrun
            exact ⟨_, hrun, _, _, rfl, by omega, fun hne => absurd rfl hne⟩
      · cases h
    · cases h
  · cases h

theorem alen_sound (hH : HR E K H w) {t ty : TypeId} {x v : AV} {xv : Value} (hx : VR K x xv) (h : alen E H t x = some v) : QOK E K w (Builtin.len_ #[t] ty #[xv]) v := by
  unfold alen at h
  split at h
  · rename_i s hu
    simp only [VR] at hx; subst hx; cases h
    exact ⟨_, by simp [Builtin.len_, run_underlying (Env.un_ok hu), goInt], rfl⟩
  · rename_i n el hu
    cases h
    exact ⟨_, by simp [Builtin.len_, run_underlying (Env.un_ok hu), goInt], rfl⟩
  · rename_i el hu
    simp only [VR] at hx; subst hx; cases h
    exact ⟨_, by simp [Builtin.len_, run_underlying (Env.un_ok hu), goInt], rfl⟩
  · rename_i el cs len hu
    simp only [VR] at hx
    obtain ⟨a, c, rfl, _⟩ := hx
    cases h
    exact ⟨_, by simp [Builtin.len_, run_underlying (Env.un_ok hu), goInt], rfl⟩
  · rename_i el b ver off len sz hu
    split at h
    · rename_i hl
      cases h
      obtain ⟨i, arr, e', cs'', hb', hi', hver, _⟩ := live_spec hH hl
      obtain ⟨cap, rfl, _⟩ := hx.osl_eq hi' hver
      exact ⟨_, by simp [Builtin.len_, run_underlying (Env.un_ok hu), goInt], rfl⟩
    · cases h
  · cases h

theorem apure_sound {s : Sem Value} {v : AV} (h : apure E s = some v) : QOK E K w s v := by
  unfold apure at h
  split at h
  · rename_i u hu
    exact ⟨u, prun_run hu w, ofV_sound h⟩
  · cases h

theorem eqGuard_int {op : BinOp} {t : TypeId} {xo yo : Operand} {k k' : IntKind} {a b : Int} : (eqGuard op t xo yo (.int k a) (.int k' b)).run E.P w = .ok () w := by
  unfold eqGuard
  cases op <;> simp

theorem aint_sound {op : BinOp} {t : TypeId} {k k' : IntKind} {a b : Int} {v : AV} (h : aint E op t k k' a b = some v) : QOK E K w (binOp op t (.int k a) (.int k' b)) v := by
  have eqk : ∀ {x : AV} {y : Value}, (if k = k' then some x else none) = some v → (k = k' → (binOp op t (.int k a) (.int k' b)).run E.P w = .ok y w) → VR K x y → QOK E K w (binOp op t (.int k a) (.int k' b)) v := by
    intro x y h1 h2 h3
    split at h1
    · rename_i hk
      cases h1
      exact ⟨y, h2 hk, h3⟩
    · cases h1
  cases op <;> simp only [aint] at h
  case add => exact eqk h (fun hk => by subst hk; simp [binOp, Op.intArith]) rfl
  case sub => exact eqk h (fun hk => by subst hk; simp [binOp, Op.intArith]) rfl
  case mul => exact eqk h (fun hk => by subst hk; simp [binOp, Op.intArith]) rfl
  case eql => exact eqk h (fun hk => by subst hk; simp [binOp, Op.intCmp]) rfl
  case neq => exact eqk h (fun hk => by subst hk; simp [binOp, Op.intCmp]) rfl
  case lss => exact eqk h (fun hk => by subst hk; simp [binOp, Op.intCmp]) rfl
  case leq => exact eqk h (fun hk => by subst hk; simp [binOp, Op.intCmp]) rfl
  case gtr => exact eqk h (fun hk => by subst hk; simp [binOp, Op.intCmp]) rfl
  case geq => exact eqk h (fun hk => by subst hk; simp [binOp, Op.intCmp]) rfl
  case quo =>
    split at h
    · rename_i hc
      obtain ⟨rfl, hb⟩ := hc
      cases h
      exact ⟨_, by simp only [binOp, Op.intDiv, ne_eq, not_true_eq_false, if_false, if_neg hb]; rfl, rfl⟩
    · cases h
  case rem =>
    split at h
    · rename_i hc
      obtain ⟨rfl, hb⟩ := hc
      cases h
      exact ⟨_, by simp only [binOp, Op.intDiv, ne_eq, not_true_eq_false, if_false, if_neg hb]; rfl, rfl⟩
    · cases h
  case shl =>
    split at h
    · rename_i hc
      cases h
      exact ⟨_, by simp only [binOp, Op.shift, if_neg (show ¬ b < 0 by omega)]; rfl, rfl⟩
    · cases h
  case shr =>
    split at h
    · rename_i hc
      cases h
      exact ⟨_, by simp only [binOp, Op.shift, if_neg (show ¬ b < 0 by omega)]; rfl, rfl⟩
    · cases h
  all_goals exact apure_sound h

theorem abin_sound {op : BinOp} {t : TypeId} {xo yo : Operand} {x y v : AV} {xv yv : Value} (hx : VR K x xv) (hy : VR K y yv) (h : abin E op t xo yo x y = some v) :
    QOK E K w (do eqGuard op t xo yo xv yv; binOp op t xv yv) v := by
  unfold abin at h
  split at h
  · rename_i k a k' b
    simp only [VR] at hx hy
    subst hx hy
    obtain ⟨cv, h1, h2⟩ := aint_sound (K := K) (w := w) h
    exact ⟨cv, by simp [eqGuard_int, h1], h2⟩
  · split at h
    · rename_i u u' h1 h2
      have e1 := toV_sound _ _ _ h1 hx
      have e2 := toV_sound _ _ _ h2 hy
      subst e1 e2
      exact apure_sound h
    · cases h

theorem isNil_sound (hH : HR E K H w) {t : TypeId} {x y : AV} {xv yv : Value} (hx : VR K x xv) (hy : VR K y yv) (h : isNil E H t x y = true) :
    (Op.equal t xv yv).run E.P w = .ok false w ∧ ((∃ a n c, xv = .slice a n c) ∨ (∃ a, xv = .pointer a) ∨ (∃ f a b, xv = .func f a b)) ∧ (yv = .slice none 0 0 ∨ yv = .pointer none ∨ yv = .nilFunc) := by
  have red : (∀ n, (Op.equalIn (n + 1) t xv yv).run E.P w = .ok false w) → (Op.equal t xv yv).run E.P w = .ok false w := fun hn => hn 9999
  unfold isNil at h
  split at h
  · rename_i el b ver off len sz hu
    obtain ⟨i, arr, e', cs'', hb', hi', hver, _⟩ := live_spec hH h
    obtain ⟨cap, rfl, _⟩ := hx.osl_eq hi' hver
    simp only [VR] at hy
    subst hy
    exact ⟨red (fun n => by simp [Op.equalIn, run_underlying (Env.un_ok hu)]), .inl ⟨_, _, _, rfl⟩, .inl rfl⟩
  · rename_i el c cs len hu
    simp only [VR] at hx hy
    obtain ⟨a, cc, rfl, _, hcr⟩ := hx
    obtain ⟨b, o, rfl, _⟩ := hcr (by simp)
    subst hy
    exact ⟨red (fun n => by simp [Op.equalIn, run_underlying (Env.un_ok hu)]), .inl ⟨_, _, _, rfl⟩, .inl rfl⟩
  · rename_i el b ver off hu
    obtain ⟨i, arr, e', cs'', hb', hi', hver, _⟩ := live_spec hH h
    have := hx.ptr_eq hi' hver
    subst this
    simp only [VR] at hy
    subst hy
    exact ⟨red (fun n => by simp [Op.equalIn, run_underlying (Env.un_ok hu)]), .inr (.inl ⟨_, rfl⟩), .inr (.inl rfl)⟩
  · rename_i el cs hu
    simp only [VR] at hx hy
    obtain ⟨b, o, rfl, _⟩ := hx
    subst hy
    exact ⟨red (fun n => by simp [Op.equalIn, run_underlying (Env.un_ok hu)]), .inr (.inl ⟨_, rfl⟩), .inr (.inl rfl)⟩
  · rename_i p q s f a b hu
    simp only [VR] at hx hy
    obtain ⟨_, fs, cs, rfl, _⟩ := hx
    subst hy
    exact ⟨red (fun n => by simp [Op.equalIn, run_underlying (Env.un_ok hu)]), .inr (.inr ⟨_, _, _, rfl⟩), .inr (.inr rfl)⟩
  · cases h

theorem anil_sound (hH : HR E K H w) {op : BinOp} {t : TypeId} {xo yo : Operand} {x y v : AV} {xv yv : Value} (hx : VR K x xv) (hy : VR K y yv) (h : anil E H op t x y = some v) :
    QOK E K w (do eqGuard op t xo yo xv yv; binOp op t xv yv) v := by
  unfold anil at h
  split at h
  · split at h
    · rename_i hn
      cases h
      obtain ⟨h1, h2, h3⟩ := isNil_sound hH hx hy hn
      refine ⟨.bool false, ?_, rfl⟩
      rcases h2 with ⟨_, _, _, rfl⟩ | ⟨_, rfl⟩ | ⟨_, _, _, rfl⟩ <;> rcases h3 with rfl | rfl | rfl <;> simp [eqGuard, binOp, h1]
    · cases h
  · split at h
    · rename_i hn
      cases h
      obtain ⟨h1, h2, h3⟩ := isNil_sound hH hx hy hn
      refine ⟨.bool true, ?_, rfl⟩
      rcases h2 with ⟨_, _, _, rfl⟩ | ⟨_, rfl⟩ | ⟨_, _, _, rfl⟩ <;> rcases h3 with rfl | rfl | rfl <;> simp [eqGuard, binOp, h1]
    · cases h
  · cases h

theorem aconv_sound {src dst : TypeId} {x v : AV} {xv : Value} (hs : ∃ d, E.P.underlying src = some d) (hx : VR K x xv) (h : aconv E src dst x = some v) : QOK E K w (convert src dst xv) v := by
  unfold aconv at h
  split at h
  · rename_i k k' n hu
    simp only [VR] at hx
    subst hx
    cases h
    obtain ⟨d, hd⟩ := hs
    exact ⟨.int k (k.wrap n), by simp [convert, run_underlying (Env.un_ok hu), run_underlying hd, Conv.intToInt], rfl⟩
  · split at h
    · rename_i u h1
      have e1 := toV_sound _ _ _ h1 hx
      subst e1
      exact apure_sound h
    · cases h

theorem run_zero {P : Program} {t : TypeId} {x : TI} (h : tinfo P t = some x) (w : World) : ∃ z, (zeroValue t).run P w = .ok z w ∧ ofCells z.cells.toList = some x.zero ∧ z.cells.size = x.size := by
  obtain ⟨i, z, h1, h2, h3, h4, h5, h6, h7, h8⟩ := tinfo_spec h
  exact ⟨z, by simp [zeroValue, typeInfo, h1, h3], h4, by rw [h7, h5]⟩

end

end Go.Proofs.Ytcdnonggajoghaa
