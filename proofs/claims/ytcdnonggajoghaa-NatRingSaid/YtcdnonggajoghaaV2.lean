/- A call by itself: its arguments are data, what it made becomes data. -/
import Derived.Test.YtcdnonggajoghaaV1
namespace Go.Proofs.Ytcdnonggajoghaa
open Go Go.RowKit
set_option linter.unusedVariables false
set_option linter.unusedSimpArgs false

section
variable {K K' : Conc} {n : Nat}

mutual
theorem VR.move (hi : ∀ b o v, K.imm b o = some v → K'.imm b o = some v) (hb : ∀ (b : Nat) (i : BI), b < n → K.blk[b]? = some i → K'.blk[b]? = some i) : ∀ (a : AV) (v : Value), a.low n → VR K a v → VR K' a v
  | .bool b, v, hl, h => h
  | .int k n, v, hl, h => h
  | .str s, v, hl, h => h
  | .nptr, v, hl, h => h
  | .ptr b ver off, v, hl, h => by
    simp only [VR] at h ⊢
    obtain ⟨h1, i, e, l, s⟩ := h
    exact ⟨h1, i, hb b i hl e, l, s⟩
  | .dptr cs, v, hl, h => by
    simp only [VR] at h ⊢
    obtain ⟨b, o, e, c⟩ := h
    exact ⟨b, o, e, CR.move hi hb cs b o hl c⟩
  | .nsl, v, hl, h => h
  | .dsl cs len, v, hl, h => by
    simp only [VR] at h ⊢
    obtain ⟨a, c, e, l, f⟩ := h
    exact ⟨a, c, e, l, fun hne => let ⟨b, o, ea, hc⟩ := f hne; ⟨b, o, ea, CR.move hi hb cs b o hl hc⟩⟩
  | .osl b ver off len sz, v, hl, h => by
    simp only [VR] at h ⊢
    obtain ⟨h1, i, e, l, s⟩ := h
    exact ⟨h1, i, hb b i hl e, l, s⟩
  | .nmap, v, hl, h => h
  | .mapr b, v, hl, h => by
    simp only [VR] at h ⊢
    obtain ⟨h1, i, e, s⟩ := h
    exact ⟨h1, i, hb b i hl e, s⟩
  | .fn f first captured, v, hl, h => by
    simp only [VR] at h ⊢
    obtain ⟨hy, fs, cs, e, h1, h2⟩ := h
    exact ⟨hy, fs, cs, e, VRL.move hi hb first _ hl.1 h1, VRL.move hi hb captured _ hl.2 h2⟩
  | .yld b, v, hl, h => by
    simp only [VR] at h ⊢
    obtain ⟨h1, i, e, s⟩ := h
    exact ⟨h1, i, hb b i hl e, s⟩
  | .nfn, v, hl, h => h
  | .iface t x, v, hl, h => by
    simp only [VR] at h ⊢
    obtain ⟨u, e, hu⟩ := h
    exact ⟨u, e, VR.move hi hb x u hl hu⟩
  | .niface, v, hl, h => h
  | .agg cs, v, hl, h => by
    simp only [VR] at h ⊢
    obtain ⟨ho, us, e, hu⟩ := h
    exact ⟨ho, us, e, VRL.move hi hb cs _ hl hu⟩
  | .tup vs, v, hl, h => by
    simp only [VR] at h ⊢
    obtain ⟨us, e, hu⟩ := h
    exact ⟨us, e, VRL.move hi hb vs _ hl hu⟩
theorem VRL.move (hi : ∀ b o v, K.imm b o = some v → K'.imm b o = some v) (hb : ∀ (b : Nat) (i : BI), b < n → K.blk[b]? = some i → K'.blk[b]? = some i) : ∀ (a : List AV) (l : List Value), lowL n a → VRL K a l → VRL K' a l
  | [], l, hl, h => h
  | c :: cs, l, hl, h => by
    simp only [VRL] at h ⊢
    obtain ⟨u, us, e, h1, h2⟩ := h
    exact ⟨u, us, e, VR.move hi hb c u hl.1 h1, VRL.move hi hb cs us hl.2 h2⟩
theorem CR.move (hi : ∀ b o v, K.imm b o = some v → K'.imm b o = some v) (hb : ∀ (b : Nat) (i : BI), b < n → K.blk[b]? = some i → K'.blk[b]? = some i) : ∀ (a : List AV) (b o : Nat), lowL n a → CR K a b o → CR K' a b o
  | [], b, o, hl, h => h
  | c :: cs, b, o, hl, h => by
    simp only [CR] at h ⊢
    obtain ⟨h1, ⟨u, e, hu⟩, h2⟩ := h
    exact ⟨h1, ⟨u, hi _ _ _ e, VR.move hi hb c u hl.1 hu⟩, CR.move hi hb cs b (o + 1) hl.2 h2⟩
end
end

/-! ### What was written becomes data; blocks that are kept get new numbers: the j-th of σ becomes n + j -/
mutual
inductive Fz (H : Heap) (n : Nat) (σ : List Nat) : AV → AV → Prop
  | same {v v' : AV} (e : v = v') (h : v'.low n) : Fz H n σ v v'
  | nsl : Fz H n σ .nsl (.dsl [] 0)
  | kptr {b b' ver ver' off j : Nat} (hj : σ[j]? = some b) (eb : n + j = b') (ev : ver = ver') : Fz H n σ (.ptr b ver off) (.ptr b' ver' off)
  | kosl {b b' ver ver' off len len' sz j : Nat} (hj : σ[j]? = some b) (eb : n + j = b') (ev : ver = ver') (e : len = len') : Fz H n σ (.osl b ver off len sz) (.osl b' ver' off len' sz)
  | kyld {b b' j : Nat} (hj : σ[j]? = some b) (eb : n + j = b') : Fz H n σ (.yld b) (.yld b')
  | ptr {b ver off : Nat} {e : TypeId} {cs cs' : List AV} (hn : n ≤ b) (hs : b ∉ σ) (h : H[b]? = some (.cells ver e cs)) (hc : FzL H n σ (cs.drop off) cs') : Fz H n σ (.ptr b ver off) (.dptr cs')
  | osl {b ver off len sz : Nat} {e : TypeId} {cs cs' : List AV} (hn : n ≤ b) (hs : b ∉ σ) (h : H[b]? = some (.cells ver e cs)) (hc : FzL H n σ ((cs.drop off).take (len * sz)) cs') : Fz H n σ (.osl b ver off len sz) (.dsl cs' len)
  | dptr {cs cs' : List AV} (h : FzL H n σ cs cs') : Fz H n σ (.dptr cs) (.dptr cs')
  | dsl {cs cs' : List AV} {len : Nat} (h : FzL H n σ cs cs') : Fz H n σ (.dsl cs len) (.dsl cs' len)
  | agg {cs cs' : List AV} (h : FzL H n σ cs cs') : Fz H n σ (.agg cs) (.agg cs')
  | tup {cs cs' : List AV} (h : FzL H n σ cs cs') : Fz H n σ (.tup cs) (.tup cs')
  | iface {t : TypeId} {v v' : AV} (h : Fz H n σ v v') : Fz H n σ (.iface t v) (.iface t v')
  | fn {f : Fn} {a a' b b' : List AV} (ha : FzL H n σ a a') (hb : FzL H n σ b b') : Fz H n σ (.fn f a b) (.fn f a' b')
inductive FzL (H : Heap) (n : Nat) (σ : List Nat) : List AV → List AV → Prop
  | nil : FzL H n σ [] []
  | cons {c c' : AV} {cs cs' : List AV} (h : Fz H n σ c c') (hs : FzL H n σ cs cs') : FzL H n σ (c :: cs) (c' :: cs')
end

theorem Fz.one {H : Heap} {n : Nat} {σ : List Nat} {v v' : AV} (h : Fz H n σ v v') : v'.one = v.one := by
  cases h <;> first | rfl | (subst_vars; rfl)
theorem FzL.all : ∀ {H : Heap} {n : Nat} {σ : List Nat} {cs cs' : List AV}, FzL H n σ cs cs' → cs'.all AV.one = cs.all AV.one
  | _, _, _, _, _, .nil => rfl
  | _, _, _, _, _, .cons h hs => by simp only [List.all_cons, h.one, FzL.all hs]
theorem FzL.refl {H : Heap} {n : Nat} {σ : List Nat} : ∀ {cs : List AV}, lowL n cs → FzL H n σ cs cs
  | [], _ => .nil
  | c :: cs, h => .cons (.same rfl h.1) (FzL.refl h.2)
theorem FzL.same {H : Heap} {n : Nat} {σ : List Nat} {cs cs' : List AV} (e : cs = cs') (h : lowL n cs') : FzL H n σ cs cs' := by subst e; exact FzL.refl h

section
variable {E : Env} {K K' : Conc} {H : Heap} {w : World} {n : Nat} {σ : List Nat}

/-- What the new view has to keep. -/
structure FzOK (K K' : Conc) (w : World) (n : Nat) (σ : List Nat) : Prop where
  imm : ∀ b o v, K.imm b o = some v → K'.imm b o = some v
  blk : ∀ (b : Nat) (i : BI), b < n → K.blk[b]? = some i → K'.blk[b]? = some i
  keep : ∀ (j b : Nat) (i : BI), σ[j]? = some b → K.blk[b]? = some i → K'.blk[n + j]? = some i
  frz : ∀ (b : Nat) (i : BI) (o : Nat) (v : Value), n ≤ b → b ∉ σ → K.blk[b]? = some i → w.cell? ⟨i.c, o, none⟩ = some v → K'.imm i.c o = some v

mutual
theorem Fz.sound (hH : HR E K H w) (hk : FzOK K K' w n σ) : ∀ {a a' : AV} {v : Value}, Fz H n σ a a' → VR K a v → VR K' a' v
  | _, _, v, .same e hl, h => by subst e; exact VR.move hk.imm hk.blk _ v hl h
  | .ptr b ver off, _, v, .kptr (j := j) hj eb ev, h => by
    subst eb
    subst ev
    simp only [VR] at h ⊢
    obtain ⟨h1, i, e, l, s⟩ := h
    exact ⟨h1, i, hk.keep j b i hj e, l, s⟩
  | .osl b ver off len sz, _, v, .kosl (j := j) hj eb ev el, h => by
    subst eb
    subst ev
    subst el
    simp only [VR] at h ⊢
    obtain ⟨h1, i, e, l, s⟩ := h
    exact ⟨h1, i, hk.keep j b i hj e, l, s⟩
  | .yld b, _, v, .kyld (j := j) hj eb, h => by
    subst eb
    simp only [VR] at h ⊢
    obtain ⟨h1, i, e, s⟩ := h
    exact ⟨h1, i, hk.keep j b i hj e, s⟩
  | _, _, v, .nsl, h => by
    simp only [VR] at h ⊢
    exact ⟨none, 0, h, Nat.le_refl _, fun hne => absurd rfl hne⟩
  | .ptr b ver off, _, v, .ptr (e := e) (cs := cs) (cs' := cs') hn hs hb hc, h => by
    obtain ⟨i, hi, ho⟩ := hH.info hb
    obtain ⟨hv, arr, h1, h2, h3, h4, h5⟩ := ho
    have := VR.ptr_eq h hi hv
    subst this
    simp only [VR]
    refine ⟨i.c, off, rfl, CR.of (FzL.sound hH hk hc (VRL.drop off h5)) (fun j u hj => ?_) (by rw [hc.all]; exact List.all_eq_true.2 fun x hx => List.all_eq_true.1 h3 x (List.mem_of_mem_drop hx))⟩
    refine hk.frz b i (off + j) u hn hs hi ?_
    rw [cell_of_arr h1]
    rw [List.getElem?_drop, List.getElem?_take] at hj
    split at hj
    · simpa using hj
    · cases hj
  | .osl b ver off len sz, _, v, .osl (e := e) (cs := cs) (cs' := cs') hn hs hb hc, h => by
    obtain ⟨i, hi, ho⟩ := hH.info hb
    obtain ⟨hv, arr, h1, h2, h3, h4, h5⟩ := ho
    obtain ⟨cap, e1, e2, e3, e4⟩ := VR.osl_eq h hi hv
    subst e1
    simp only [VR]
    refine ⟨_, cap, rfl, e2, fun hne => ⟨i.c, off, rfl, CR.of (FzL.sound hH hk hc (VRL.take _ (VRL.drop off h5))) (fun j u hj => ?_) (by rw [hc.all]; exact List.all_eq_true.2 fun x hx => List.all_eq_true.1 h3 x (List.mem_of_mem_drop (List.mem_of_mem_take hx)))⟩⟩
    refine hk.frz b i (off + j) u hn hs hi ?_
    rw [cell_of_arr h1]
    rw [List.getElem?_take] at hj
    split at hj
    · rw [List.getElem?_drop, List.getElem?_take] at hj
      split at hj
      · simpa using hj
      · cases hj
    · cases hj
  | .dptr cs, _, v, .dptr (cs' := cs') hc, h => by
    simp only [VR] at h ⊢
    obtain ⟨b, o, e, c⟩ := h
    exact ⟨b, o, e, FzL.soundC hH hk hc c⟩
  | .dsl cs len, _, v, .dsl (cs' := cs') hc, h => by
    simp only [VR] at h ⊢
    obtain ⟨a, c, e, l, f⟩ := h
    refine ⟨a, c, e, l, fun hne => ?_⟩
    have hne' : cs ≠ [] := by rintro rfl; cases hc; exact hne rfl
    obtain ⟨b, o, ea, hcr⟩ := f hne'
    exact ⟨b, o, ea, FzL.soundC hH hk hc hcr⟩
  | .agg cs, _, v, .agg (cs' := cs') hc, h => by
    simp only [VR] at h ⊢
    obtain ⟨ho, us, e, hu⟩ := h
    exact ⟨by rw [hc.all]; exact ho, us, e, FzL.sound hH hk hc hu⟩
  | .tup cs, _, v, .tup (cs' := cs') hc, h => by
    simp only [VR] at h ⊢
    obtain ⟨us, e, hu⟩ := h
    exact ⟨us, e, FzL.sound hH hk hc hu⟩
  | .iface t x, _, v, .iface hx, h => by
    simp only [VR] at h ⊢
    obtain ⟨u, e, hu⟩ := h
    exact ⟨u, e, Fz.sound hH hk hx hu⟩
  | .fn f a b, _, v, .fn ha hb, h => by
    simp only [VR] at h ⊢
    obtain ⟨hy, fs, cs, e, h1, h2⟩ := h
    exact ⟨hy, fs, cs, e, FzL.sound hH hk ha h1, FzL.sound hH hk hb h2⟩
theorem FzL.sound (hH : HR E K H w) (hk : FzOK K K' w n σ) : ∀ {a a' : List AV} {v : List Value}, FzL H n σ a a' → VRL K a v → VRL K' a' v
  | _, _, v, .nil, h => h
  | _, _, v, .cons hc hs, h => by
    simp only [VRL] at h ⊢
    obtain ⟨u, us, e, h1, h2⟩ := h
    exact ⟨u, us, e, Fz.sound hH hk hc h1, FzL.sound hH hk hs h2⟩
theorem FzL.soundC (hH : HR E K H w) (hk : FzOK K K' w n σ) : ∀ {a a' : List AV} {b o : Nat}, FzL H n σ a a' → CR K a b o → CR K' a' b o
  | _, _, b, o, .nil, h => h
  | _, _, b, o, .cons hc hs, h => by
    simp only [CR] at h ⊢
    obtain ⟨h1, ⟨u, e, hu⟩, h2⟩ := h
    exact ⟨by rw [hc.one]; exact h1, ⟨u, hk.imm _ _ _ e, Fz.sound hH hk hc hu⟩, FzL.soundC hH hk hs h2⟩
end

/-- The view of a call by itself. -/
def Conc.alone (imm : Nat → Nat → Option Value) (w : World) : Conc := ⟨imm, [], w.heap.size, w⟩

theorem HR.alone (hH : HR E K H w) {imm : Nat → Nat → Option Value} (h1 : ∀ c o v, K.imm c o = some v → imm c o = some v) (h2 : ∀ c o v, imm c o = some v → w.cell? ⟨c, o, none⟩ = some v) :
    HR E (Conc.alone imm w) [] w :=
  ⟨rfl, fun b o i e => by simp at e, fun b i e => by simp [Conc.alone] at e, fun b b' i i' e => by simp [Conc.alone] at e, fun b i o ob eo ek e => by simp [Conc.alone] at e, h2, Below.refl _ _, Nat.le_refl _,
    fun g cs e => CR.move (n := 0) h1 (fun b i hb => absurd hb (Nat.not_lt_zero _)) cs g 0 (E.G_low g cs e) (hH.glob g cs e)⟩

/-- The view after it: what it made is data. -/
def Conc.after (K : Conc) (w w' : World) : Conc :=
  { K with imm := fun c o => match K.imm c o with
    | some v => some v
    | none => if w.heap.size ≤ c then w'.cell? ⟨c, o, none⟩ else none }

theorem Conc.after_imm {w' : World} {c o : Nat} {v : Value} (h : K.imm c o = some v) : (K.after w w').imm c o = some v := by simp [Conc.after, h]

theorem Ext.after (hH : HR E K H w) (w' : World) : Ext K (K.after w w') := by
  refine ⟨fun c o v h => Conc.after_imm h, Nat.le_refl _, fun b i e => ⟨i, e, Nat.le_refl _, fun _ => rfl⟩, rfl, rfl, fun c o v e => ?_⟩
  simp only [Conc.after] at e
  split at e
  · rename_i u hu; cases e; exact .inl hu
  · split at e
    · rename_i hc
      refine .inr (Nat.le_trans (Nat.le_trans hH.hB hH.below.size) hc)
    · cases e

theorem HR.after (hH : HR E K H w) {w' : World} (hb : Below w.heap.size w w') : HR E (K.after w w') H w' := by
  have hx := Ext.after hH w'
  refine ⟨hH.len, fun b o i e e' => (hH.obj b o i e e').mono hx (hb.block _ (hH.at_ e')), hH.low, hH.inj, fun b i o ob eo ek e => ?_, fun c o v e => ?_, hH.below.trans (hb.mono (Nat.le_trans hH.hB hH.below.size)), hH.hB, fun g cs e => CR.ext hx _ _ _ (hH.glob g cs e)⟩
  · have e : K.blk[b]? = some i := e
    have h1 := hH.off b i o ob eo ek e
    have h2 := hH.at_ e
    simp only [Conc.after, h1]
    rw [if_neg (by omega)]
  · simp only [Conc.after] at e
    split at e
    · rename_i u hu
      cases e
      have hl := hH.imm_lt hu
      rw [World.cell?_eq_of_block (hb.block c hl)]
      exact hH.imm c o _ hu
    · split at e
      · exact e
      · cases e

/-- A call whose arguments are data. -/
theorem VCall.isolate {g : FuncId} {args : List AV} {R Q : AV → Heap → Prop} (h : VCall E g args [] R) (hl : lowL 0 args) (hR : ∀ v0 H0, R v0 H0 → ∃ v', Fz H0 0 [] v0 v' ∧ Q v' H) : VCall E g args H Q := by
  refine ⟨h.ok, fun K cargs w hH hv => ?_⟩
  have hA := hH.alone (imm := K.imm) (fun _ _ _ h => h) hH.imm
  have hv0 : VRL (Conc.alone K.imm w) args cargs := VRL.move (K := K) (K' := Conc.alone K.imm w) (n := 0) (fun _ _ _ h => h) (fun b i hb => absurd hb (Nat.not_lt_zero _)) args cargs hl hv
  refine (h.call _ cargs w hA hv0).mono fun e w' q => ?_
  obtain ⟨v0, cv, K0, H0, rfl, hx, hH0, hr, hq⟩ := q
  obtain ⟨v', hz, hq'⟩ := hR v0 H0 hq
  have hB : K0.B = w.heap.size := hx.hB
  have hw0 : K0.w0 = w := hx.hw
  have hbel : Below w.heap.size w w' := by have := hH0.below; rw [hB, hw0] at this; exact this
  refine ⟨v', cv, K.after w w', H, rfl, Ext.after hH w', hH.after hbel, hz.sound hH0 (K' := K.after w w') ⟨fun c o v e => ?_, fun b i hb => absurd hb (Nat.not_lt_zero _), fun j b i hj => by simp at hj, fun b i o v _ _ hb hc => ?_⟩ hr, hq'⟩
  · rcases hx.new c o v e with e' | e'
    · exact Conc.after_imm (K := K) (w := w) e'
    · have e' : w.heap.size ≤ c := e'
      have h1 := hH0.imm c o v e
      simp only [Conc.after]
      split
      · rename_i u hu
        have hlt := hH.imm_lt hu
        omega
      · rw [if_pos e']; exact h1
  · have h2 := hH0.low b i hb
    rw [hB] at h2
    simp only [Conc.after]
    split
    · rename_i u hu
      have hlt := hH.imm_lt hu
      omega
    · rw [if_pos h2]; exact hc

/-- Values that name no memory at all. -/
def AV.sc : AV → Prop
  | .bool _ | .int _ _ | .str _ | .nptr | .nsl | .nmap | .nfn | .niface => True
  | .dsl cs _ => cs = []
  | .agg cs | .tup cs => scL cs
  | .iface _ v => v.sc
  | _ => False
where scL : List AV → Prop
  | [] => True
  | c :: cs => c.sc ∧ scL cs

mutual
theorem VR.sc : ∀ (a : AV) (v : Value), a.sc → VR K a v → VR K' a v
  | .bool b, v, hs, h => h
  | .int k n, v, hs, h => h
  | .str s, v, hs, h => h
  | .nptr, v, hs, h => h
  | .nsl, v, hs, h => h
  | .nmap, v, hs, h => h
  | .nfn, v, hs, h => h
  | .niface, v, hs, h => h
  | .dsl cs len, v, hs, h => by
    simp only [VR] at h ⊢
    obtain ⟨a, c, e, l, f⟩ := h
    exact ⟨a, c, e, l, fun hne => absurd hs hne⟩
  | .iface t x, v, hs, h => by
    simp only [VR] at h ⊢
    obtain ⟨u, e, hu⟩ := h
    exact ⟨u, e, VR.sc x u hs hu⟩
  | .agg cs, v, hs, h => by
    simp only [VR] at h ⊢
    obtain ⟨ho, us, e, hu⟩ := h
    exact ⟨ho, us, e, VRL.sc cs _ hs hu⟩
  | .tup vs, v, hs, h => by
    simp only [VR] at h ⊢
    obtain ⟨us, e, hu⟩ := h
    exact ⟨us, e, VRL.sc vs _ hs hu⟩
theorem VRL.sc : ∀ (a : List AV) (l : List Value), AV.sc.scL a → VRL K a l → VRL K' a l
  | [], l, hs, h => h
  | c :: cs, l, hs, h => by
    simp only [VRL] at h ⊢
    obtain ⟨u, us, e, h1, h2⟩ := h
    exact ⟨u, us, e, VR.sc c u hs.1 h1, VRL.sc cs us hs.2 h2⟩
end

/-- A call whose arguments are blocks of the caller's, seen as data while it runs; its result names no memory. -/
theorem VCall.lend {g : FuncId} {args args' : List AV} {R Q : AV → Heap → Prop} (h : VCall E g args' [] R) (hf : FzL H 0 [] args args') (hR : ∀ v0 H0, R v0 H0 → v0.sc ∧ Q v0 H) : VCall E g args H Q := by
  refine ⟨h.ok, fun K cargs w hH hv => ?_⟩
  have hA := hH.alone (imm := fun c o => w.cell? ⟨c, o, none⟩) hH.imm (fun _ _ _ h => h)
  have hv0 : VRL (Conc.alone (fun c o => w.cell? ⟨c, o, none⟩) w) args' cargs :=
    hf.sound hH (K' := Conc.alone (fun c o => w.cell? ⟨c, o, none⟩) w) ⟨hH.imm, fun b i hb => absurd hb (Nat.not_lt_zero _), fun j b i hj => by simp at hj, fun b i o v _ _ hb hc => hc⟩ hv
  refine (h.call _ cargs w hA hv0).mono fun e w' q => ?_
  obtain ⟨v0, cv, K0, H0, rfl, hx, hH0, hr, hq⟩ := q
  obtain ⟨hsc, hq'⟩ := hR v0 H0 hq
  have hB : K0.B = w.heap.size := hx.hB
  have hw0 : K0.w0 = w := hx.hw
  have hbel : Below w.heap.size w w' := by have := hH0.below; rw [hB, hw0] at this; exact this
  exact ⟨v0, cv, K.after w w', H, rfl, Ext.after hH w', hH.after hbel, VR.sc v0 cv hsc hr, hq'⟩

/-! ### A call whose result the caller goes on to write -/
inductive Sh (n : Nat) : AV → AV → Prop
  | osl {b ver off len sz : Nat} : Sh n (.osl b ver off len sz) (.osl (n + b) ver off len sz)
  | ptr {b ver off : Nat} : Sh n (.ptr b ver off) (.ptr (n + b) ver off)
  | same {v : AV} (h : v.low 0) : Sh n v v
  | two {a b a' b' : AV} (h : Sh n a a') (k : Sh n b b') : Sh n (.tup [a, b]) (.tup [a', b'])

def plainObj : AObj → Prop
  | .cells _ _ cs => lowL 0 cs
  | .gone => True
  | _ => False

def Conc.join (K K0 : Conc) (w : World) : Conc :=
  ⟨fun c o => match K.imm c o with
    | some v => some v
    | none => if w.heap.size ≤ c then K0.imm c o else none, K.blk ++ K0.blk, K.B, K.w0⟩

theorem Sh.sound {K0 K2 : Conc} (hi : ∀ b o v, K0.imm b o = some v → K2.imm b o = some v) (hb : ∀ (b : Nat) (i : BI), K0.blk[b]? = some i → K2.blk[n + b]? = some i) : ∀ {v v' : AV} {cv : Value}, Sh n v v' → VR K0 v cv → VR K2 v' cv
  | _, _, cv, .osl, h => by
    simp only [VR] at h ⊢
    obtain ⟨h1, i, e, l, s⟩ := h
    exact ⟨h1, i, hb _ i e, l, s⟩
  | _, _, cv, .ptr, h => by
    simp only [VR] at h ⊢
    obtain ⟨h1, i, e, l, s⟩ := h
    exact ⟨h1, i, hb _ i e, l, s⟩
  | _, _, cv, .same hl, h => VR.move hi (fun b i hb => absurd hb (Nat.not_lt_zero _)) _ cv hl h
  | _, _, cv, .two h1 h2, h => by
    simp only [VR, VRL] at h ⊢
    obtain ⟨us, e, u1, l1, e1, v1, u2, l2, e2, v2, e3⟩ := h
    exact ⟨us, e, u1, l1, e1, Sh.sound hi hb h1 v1, u2, l2, e2, Sh.sound hi hb h2 v2, e3⟩

theorem VCall.own {g : FuncId} {args : List AV} {R Q : AV → Heap → Prop} (h : VCall E g args [] R) (hl : lowL 0 args) (hR : ∀ v0 H0, R v0 H0 → (∀ o ∈ H0, plainObj o) ∧ ∃ v', Sh H.length v0 v' ∧ Q v' (H ++ H0)) : VCall E g args H Q := by
  refine ⟨h.ok, fun K cargs w hH hv => ?_⟩
  have hA := hH.alone (imm := K.imm) (fun _ _ _ h => h) hH.imm
  have hv0 : VRL (Conc.alone K.imm w) args cargs := VRL.move (K := K) (K' := Conc.alone K.imm w) (n := 0) (fun _ _ _ h => h) (fun b i hb => absurd hb (Nat.not_lt_zero _)) args cargs hl hv
  refine (h.call _ cargs w hA hv0).mono fun e w' q => ?_
  obtain ⟨v0, cv, K0, H0, rfl, hx, hH0, hr, hq⟩ := q
  obtain ⟨hp, v', hz, hq'⟩ := hR v0 H0 hq
  have hB : K0.B = w.heap.size := hx.hB
  have hw0 : K0.w0 = w := hx.hw
  have hbel : Below w.heap.size w w' := by have := hH0.below; rw [hB, hw0] at this; exact this
  have imm1 : ∀ c o v, K.imm c o = some v → (K.join K0 w).imm c o = some v := fun c o v h => by simp [Conc.join, h]
  have imm0 : ∀ c o v, K0.imm c o = some v → (K.join K0 w).imm c o = some v := by
    intro c o v e
    rcases hx.new c o v e with e' | e'
    · exact imm1 c o v e'
    · have e' : w.heap.size ≤ c := e'
      simp only [Conc.join]
      split
      · rename_i u hu
        have hlt := hH.imm_lt hu
        omega
      · rw [if_pos e']; exact e
  have blk1 : ∀ (b : Nat) (i : BI), K.blk[b]? = some i → (K.join K0 w).blk[b]? = some i := fun b i e => by
    simp [Conc.join, List.getElem?_append_left (List.getElem?_eq_some_iff.1 e).1, e]
  have blk0 : ∀ (b : Nat) (i : BI), K0.blk[b]? = some i → (K.join K0 w).blk[H.length + b]? = some i := fun b i e => by
    simp only [Conc.join]
    rw [← hH.len, List.getElem?_append_right (by omega)]
    simpa using e
  have get : ∀ (b : Nat) (i : BI), (K.join K0 w).blk[b]? = some i → (b < H.length ∧ K.blk[b]? = some i) ∨ (H.length ≤ b ∧ K0.blk[b - H.length]? = some i) := by
    intro b i e
    simp only [Conc.join] at e
    rcases Nat.lt_or_ge b H.length with hlt | hge
    · rw [List.getElem?_append_left (by rw [hH.len]; exact hlt)] at e
      exact .inl ⟨hlt, e⟩
    · rw [List.getElem?_append_right (by rw [hH.len]; exact hge), hH.len] at e
      exact .inr ⟨hge, e⟩
  have hext : Ext K (K.join K0 w) := by
    refine ⟨imm1, by simp [Conc.join], fun b i e => ⟨i, blk1 b i e, Nat.le_refl _, fun _ => rfl⟩, rfl, rfl, fun c o v e => ?_⟩
    simp only [Conc.join] at e
    split at e
    · rename_i u hu; cases e; exact .inl hu
    · split at e
      · rename_i hc
        exact .inr (Nat.le_trans (Nat.le_trans hH.hB hH.below.size) hc)
      · cases e
  refine ⟨v', cv, K.join K0 w, H ++ H0, rfl, hext, ⟨?_, fun b o i e e' => ?_, fun b i e => ?_, fun b b' i i' e e' he => ?_, fun b i o ob eo ek e => ?_, fun c o v e => ?_, hH.below.trans (hbel.mono (Nat.le_trans hH.hB hH.below.size)), hH.hB, fun g cs e => CR.ext hext _ _ _ (hH.glob g cs e)⟩, hz.sound imm0 blk0 hr, hq'⟩
  · simp [Conc.join, hH.len, hH0.len]
  · rcases get b i e' with ⟨hlt, e2⟩ | ⟨hge, e2⟩
    · rw [List.getElem?_append_left hlt] at e
      exact (hH.obj b o i e e2).mono hext (hbel.block _ (hH.at_ e2))
    · rw [List.getElem?_append_right hge] at e
      have ho := hH0.obj _ o i e e2
      have hpl := hp o (List.mem_of_getElem? e)
      cases o with
      | cells ver ty cs =>
        obtain ⟨x1, arr, x2, x3, x4, x5, x6⟩ := ho
        exact ⟨x1, arr, x2, x3, x4, x5, VRL.move imm0 (fun b i hb => absurd hb (Nat.not_lt_zero _)) cs _ hpl x6⟩
      | gone => exact ho
      | map => exact hpl.elim
      | dfr => exact hpl.elim
      | loop => exact hpl.elim
  · rcases get b i e with ⟨hlt, e2⟩ | ⟨hge, e2⟩
    · exact hH.low b i e2
    · have := hH0.low _ i e2
      rw [hB] at this
      exact Nat.le_trans (Nat.le_trans hH.hB hH.below.size) this
  · rcases get b i e with ⟨hlt, e2⟩ | ⟨hge, e2⟩ <;> rcases get b' i' e' with ⟨hlt', e2'⟩ | ⟨hge', e2'⟩
    · exact hH.inj b b' i i' e2 e2' he
    · have h1 := hH.at_ e2
      have h2 := hH0.low _ i' e2'
      rw [hB] at h2
      omega
    · have h1 := hH.at_ e2'
      have h2 := hH0.low _ i e2
      rw [hB] at h2
      omega
    · have := hH0.inj _ _ i i' e2 e2' he
      omega
  · rcases get b i e with ⟨hlt, e2⟩ | ⟨hge, e2⟩
    · have h1 := hH.off b i o ob (by rwa [List.getElem?_append_left hlt] at eo) ek e2
      have h2 := hH.at_ e2
      simp only [Conc.join, h1]
      rw [if_neg (by omega)]
    · have h1 := hH0.off _ i o ob (by rwa [List.getElem?_append_right hge] at eo) ek e2
      have h2 := hH0.low _ i e2
      rw [hB] at h2
      simp only [Conc.join]
      split
      · rename_i u hu
        have hlt := hH.imm_lt hu
        omega
      · rw [if_pos h2]; exact h1
  · simp only [Conc.join] at e
    split at e
    · rename_i u hu
      cases e
      have hl := hH.imm_lt hu
      rw [World.cell?_eq_of_block (hbel.block c hl)]
      exact hH.imm c o _ hu
    · split at e
      · exact hH0.imm c o v e
      · cases e

end

end Go.Proofs.Ytcdnonggajoghaa
