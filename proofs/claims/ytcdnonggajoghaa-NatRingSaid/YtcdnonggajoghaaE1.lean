/- How an abstract heap stands for the machine's world; new blocks, blocks that are written. -/
import Derived.Test.YtcdnonggajoghaaEt
namespace Go.Proofs.Ytcdnonggajoghaa
open Go Go.RowKit
set_option linter.unusedVariables false
set_option linter.unusedSimpArgs false

def FR (K : Conc) (N : Nat) (fr : Fr) (t : Array Value) : Prop := t.size = N ∧ ∀ k v, lk fr k = some v → VR K v (t.getD k undef)

theorem FR.ext {K K' : Conc} (hx : Ext K K') {N : Nat} {fr : Fr} {t : Array Value} (h : FR K N fr t) : FR K' N fr t :=
  ⟨h.1, fun k v e => VR.ext hx _ _ (h.2 k v e)⟩

theorem FR.put {K : Conc} {N : Nat} {fr : Fr} {t : Array Value} (h : FR K N fr t) {d : Nat} (hd : d < N) {v : AV} {u : Value} (hu : VR K v u) :
    FR K N ((d, v) :: fr) (t.setIfInBounds d u) := by
  refine ⟨by simp [h.1], fun k x e => ?_⟩
  simp only [lk] at e
  by_cases hk : d = k
  · subst hk
    rw [if_pos rfl] at e
    cases e
    have : d < t.size := by rw [h.1]; exact hd
    simp [this]
    exact hu
  · rw [if_neg hk] at e
    have := h.2 k x e
    simp only [Array.getD_eq_getD_getElem?, Array.getElem?_setIfInBounds_ne hk] at this ⊢
    exact this

/-- Forgetting. -/
theorem FR.sub {K : Conc} {N : Nat} {fr fr' : Fr} {t : Array Value} (h : FR K N fr t) (hs : ∀ k v, lk fr' k = some v → lk fr k = some v) : FR K N fr' t :=
  ⟨h.1, fun k v e => h.2 k v (hs k v e)⟩

def OR (K : Conc) (o : AObj) (i : BI) (w : World) : Prop :=
  match o with
  | .cells ver e cs => i.ver = ver ∧ ∃ arr, w.heap[i.c]? = some (.cells arr e (0, 0)) ∧ arr.size = i.room ∧ cs.all AV.one = true ∧ cs.length ≤ arr.size ∧ VRL K cs (arr.toList.take cs.length)
  | .map es => i.ver = 0 ∧ ∃ ents clock, w.heap[i.c]? = some (.map ents clock) ∧ VRL K (es.map (·.1)) (ents.toList.map (·.key)) ∧ VRL K (es.map (·.2)) (ents.toList.map (·.val)) ∧
      ents.toList.map (·.born) = List.range es.length ∧ clock = es.length
  | .dfr => i.ver = 0 ∧ w.heap[i.c]? = some (.deferred (some []))
  | .gone => i.c < w.heap.size
  | .loop st pend fr n ps asg body d => i.ver = 0 ∧ ∃ f tmps dc, w.heap[i.c]? = some (.loop { state := st, pending := pend, fn := f, tmps := tmps, params := ps, assign := asg, body := body, defers := dc }) ∧
      FR K n fr tmps ∧ ∃ j, K.blk[d]? = some j ∧ (j.ver = 0 → dc = j.c)

theorem OR.at_ {K : Conc} {o : AObj} {i : BI} {w : World} (h : OR K o i w) : i.c < w.heap.size := by
  have key : ∀ {x : Obj}, w.heap[i.c]? = some x → i.c < w.heap.size := fun e => (Array.getElem?_eq_some_iff.1 e).1
  cases o with
  | cells ver e cs => obtain ⟨_, arr, h, _⟩ := h; exact key h
  | map es => obtain ⟨_, _, _, h, _⟩ := h; exact key h
  | dfr => exact key h.2
  | gone => exact h
  | loop => obtain ⟨_, _, _, _, h, _⟩ := h; exact key h

theorem OR.mono {K K' : Conc} (hx : Ext K K') {o : AObj} {i : BI} {w w' : World} (h : OR K o i w) (hw : w'.heap[i.c]? = w.heap[i.c]?) : OR K' o i w' := by
  have hat := h.at_
  cases o with
  | cells ver e cs =>
    obtain ⟨h1, arr, h2, h3, h4, h5, h6⟩ := h
    exact ⟨h1, arr, hw.trans h2, h3, h4, h5, VRL.ext hx _ _ h6⟩
  | map es =>
    obtain ⟨h1, a, b, h2, h3, h4, h5⟩ := h
    exact ⟨h1, a, b, hw.trans h2, VRL.ext hx _ _ h3, VRL.ext hx _ _ h4, h5⟩
  | dfr => exact ⟨h.1, hw.trans h.2⟩
  | gone =>
    have : w'.heap[i.c]? = some w.heap[i.c] := hw.trans (Array.getElem?_eq_getElem hat)
    exact (Array.getElem?_eq_some_iff.1 this).1
  | loop st pend fr n ps asg body d =>
    obtain ⟨h1, f, tmps, dc, h2, h3, j, h4, h5⟩ := h
    obtain ⟨j', e', l', s'⟩ := hx.blk d j h4
    refine ⟨h1, f, tmps, dc, hw.trans h2, h3.ext hx, j', e', fun hv => ?_⟩
    have hh := s' (by omega)
    subst hh
    exact h5 hv

structure HR (E : Env) (K : Conc) (H : Heap) (w : World) : Prop where
  len : K.blk.length = H.length
  obj : ∀ (b : Nat) (o : AObj) (i : BI), H[b]? = some o → K.blk[b]? = some i → OR K o i w
  low : ∀ (b : Nat) (i : BI), K.blk[b]? = some i → K.B ≤ i.c
  inj : ∀ (b b' : Nat) (i i' : BI), K.blk[b]? = some i → K.blk[b']? = some i' → i.c = i'.c → b = b'
  off : ∀ (b : Nat) (i : BI) (o : Nat) (ob : AObj), H[b]? = some ob → ob.kept = true → K.blk[b]? = some i → K.imm i.c o = none
  imm : ∀ c o v, K.imm c o = some v → w.cell? ⟨c, o, none⟩ = some v
  below : Below K.B K.w0 w
  hB : K.B ≤ K.w0.heap.size
  glob : ∀ g cs, E.G g = some cs → CR K cs g 0

theorem HR.info {E : Env} {K : Conc} {H : Heap} {w : World} (h : HR E K H w) {b : Nat} {o : AObj} (hb : H[b]? = some o) : ∃ i, K.blk[b]? = some i ∧ OR K o i w := by
  have hl : b < K.blk.length := by rw [h.len]; exact (List.getElem?_eq_some_iff.1 hb).1
  exact ⟨K.blk[b], List.getElem?_eq_getElem hl, h.obj b o _ hb (List.getElem?_eq_getElem hl)⟩

theorem HR.at_ {E : Env} {K : Conc} {H : Heap} {w : World} (h : HR E K H w) {b : Nat} {i : BI} (hb : K.blk[b]? = some i) : i.c < w.heap.size := by
  have hl : b < H.length := by rw [← h.len]; exact (List.getElem?_eq_some_iff.1 hb).1
  exact (h.obj b _ i (List.getElem?_eq_getElem hl) hb).at_

theorem HR.imm_lt {E : Env} {K : Conc} {H : Heap} {w : World} (h : HR E K H w) {c o : Nat} {v : Value} (hi : K.imm c o = some v) : c < w.heap.size :=
  World.block_lt_of_cell? w ⟨c, o, none⟩ (h.imm c o v hi)

theorem HR.drew {E : Env} {K : Conc} {H : Heap} {w : World} (h : HR E K H w) : HR E K H w.drew :=
  ⟨h.len, fun b o i e e' => (h.obj b o i e e').mono (Ext.refl K) rfl, h.low, h.inj, h.off, fun c o v e => h.imm c o v e, h.below.drew, h.hB, h.glob⟩

def Conc.upd (K : Conc) (b : Nat) (i : BI) : Conc := { K with blk := K.blk.set b i }
def Conc.push (K : Conc) (i : BI) : Conc := { K with blk := K.blk ++ [i] }

theorem Conc.ext_upd {K : Conc} {b : Nat} {i i' : BI} (hb : K.blk[b]? = some i) (hv : i.ver ≤ i'.ver) (hs : i'.ver = i.ver → i' = i) : Ext K (K.upd b i') := by
  refine ⟨fun _ _ _ h => h, by simp [Conc.upd], fun b' j e => ?_, rfl, rfl, fun _ _ _ h => .inl h⟩
  by_cases hbb : b = b'
  · subst hbb
    have : j = i := Option.some.inj (e.symm.trans hb)
    subst this
    exact ⟨i', by simp [Conc.upd, (List.getElem?_eq_some_iff.1 hb).1], hv, hs⟩
  · exact ⟨j, by simp [Conc.upd, hbb, e], Nat.le_refl _, fun _ => rfl⟩

theorem Conc.ext_push (K : Conc) (i : BI) : Ext K (K.push i) :=
  ⟨fun _ _ _ h => h, by simp [Conc.push], fun b j e => ⟨j, by simp [Conc.push, List.getElem?_append_left (List.getElem?_eq_some_iff.1 e).1, e], Nat.le_refl _, fun _ => rfl⟩, rfl, rfl, fun _ _ _ h => .inl h⟩

theorem World.cell?_eq_of_block {w w' : World} {c o : Nat} (h : w'.heap[c]? = w.heap[c]?) : w'.cell? ⟨c, o, none⟩ = w.cell? ⟨c, o, none⟩ := by
  simp [World.cell?, h]

/-- A block is written, or stands elsewhere from now on. -/
theorem HR.upd {E : Env} {K : Conc} {H : Heap} {w w' : World} (h : HR E K H w) {b : Nat} {ob : AObj} (h0 : H[b]? = some ob) (hk : ob.kept = true) {i i' : BI} (hb : K.blk[b]? = some i) (hv : i.ver ≤ i'.ver) (hs : i'.ver = i.ver → i' = i)
    (hc : i'.c = i.c ∨ w.heap.size ≤ i'.c) (hg : w.grownBy w' (some i.c)) {o : AObj} (ho : OR (K.upd b i') o i' w') :
    HR E (K.upd b i') (H.set b o) w' := by
  have hx := Conc.ext_upd hb hv hs
  have hbl : b < K.blk.length := (List.getElem?_eq_some_iff.1 hb).1
  have get : ∀ (b' : Nat) (j : BI), (K.upd b i').blk[b']? = some j → (b' = b ∧ j = i') ∨ (b' ≠ b ∧ K.blk[b']? = some j) := by
    intro b' j e
    by_cases hbb : b = b'
    · subst hbb
      simp [Conc.upd, hbl] at e
      exact .inl ⟨rfl, e.symm⟩
    · simp [Conc.upd, hbb] at e
      exact .inr ⟨fun h => hbb h.symm, by simpa using e⟩
  have fresh : ∀ (b' : Nat) (j : BI), b' ≠ b → K.blk[b']? = some j → j.c ≠ i'.c := by
    intro b' j hne e heq
    rcases hc with hc | hc
    · exact hne (h.inj b' b j i e hb (by omega))
    · have := h.at_ e
      omega
  have old : ∀ (b' : Nat) (j : BI), b' ≠ b → K.blk[b']? = some j → w'.heap[j.c]? = w.heap[j.c]? := by
    intro b' j hne e
    exact hg.block _ (h.at_ e) (fun hh => hne (h.inj b' b j i e hb (Option.some.inj hh)))
  refine ⟨by simp [Conc.upd, h.len], fun b' o' j e e' => ?_, fun b' j e => ?_, fun b1 b2 j1 j2 e1 e2 he => ?_, fun b' j o' oo eo ek e => ?_, fun c o' v e => ?_, ?_, h.hB, fun g cs e => CR.ext hx _ _ _ (h.glob g cs e)⟩
  · rcases get b' j e' with ⟨rfl, rfl⟩ | ⟨hne, e''⟩
    · have hbh : b' < H.length := by rw [← h.len]; exact hbl
      simp [hbh] at e
      subst e
      exact ho
    · have e3 : H[b']? = some o' := by
        have : b ≠ b' := fun hh => hne hh.symm
        simpa [this] using e
      exact (h.obj b' o' j e3 e'').mono hx (old b' j hne e'')
  · rcases get b' j e with ⟨rfl, rfl⟩ | ⟨hne, e''⟩
    · rcases hc with hc | hc
      · show K.B ≤ _
        rw [hc]; exact h.low _ _ hb
      · have h1 := h.below.size
        have h2 := h.hB
        show K.B ≤ _
        omega
    · exact h.low b' j e''
  · rcases get b1 j1 e1 with ⟨rfl, rfl⟩ | ⟨hne1, e1'⟩
    · rcases get b2 j2 e2 with ⟨rfl, rfl⟩ | ⟨hne2, e2'⟩
      · rfl
      · exact absurd he.symm (fresh b2 j2 hne2 e2')
    · rcases get b2 j2 e2 with ⟨rfl, rfl⟩ | ⟨hne2, e2'⟩
      · exact absurd he (fresh b1 j1 hne1 e1')
      · exact h.inj b1 b2 j1 j2 e1' e2' he
  · rcases get b' j e with ⟨rfl, rfl⟩ | ⟨hne, e''⟩
    · show K.imm _ _ = none
      rcases hc with hc | hc
      · rw [hc]; exact h.off _ _ _ _ h0 hk hb
      · cases hi : K.imm j.c o' with
        | none => rfl
        | some v => have := h.imm_lt hi; omega
    · refine h.off b' j o' oo ?_ ek e''
      have : b ≠ b' := fun hh => hne hh.symm
      simpa [this] using eo
  · have e' : K.imm c o' = some v := e
    have hcl := h.imm_lt e'
    have hne : c ≠ i.c := by
      rintro rfl
      have := h.off b i o' _ h0 hk hb
      rw [this] at e'
      cases e'
    rw [World.cell?_eq_of_block (hg.block c hcl (fun hh => hne (Option.some.inj hh)))]
    exact h.imm c o' v e'
  · show Below K.B K.w0 w'
    exact h.below.grown hg (Nat.le_trans h.hB h.below.size) (fun k hk => by cases hk; exact h.low _ _ hb)

/-- A new block. -/
theorem HR.push {E : Env} {K : Conc} {H : Heap} {w w' : World} (h : HR E K H w) {i' : BI} (hc : w.heap.size ≤ i'.c) (hg : w.grownBy w' none) {o : AObj} (ho : OR (K.push i') o i' w') :
    HR E (K.push i') (H ++ [o]) w' := by
  have hx := Conc.ext_push K i'
  have get : ∀ (b' : Nat) (j : BI), (K.push i').blk[b']? = some j → (b' = K.blk.length ∧ j = i') ∨ (b' < K.blk.length ∧ K.blk[b']? = some j) := by
    intro b' j e
    rcases Nat.lt_or_ge b' K.blk.length with hlt | hge
    · exact .inr ⟨hlt, by simpa [Conc.push, List.getElem?_append_left hlt] using e⟩
    · have hb : b' < (K.blk ++ [i']).length := (List.getElem?_eq_some_iff.1 e).1
      simp at hb
      have : b' = K.blk.length := by omega
      subst this
      simp [Conc.push] at e
      exact .inl ⟨rfl, e.symm⟩
  have old : ∀ (b' : Nat) (j : BI), K.blk[b']? = some j → w'.heap[j.c]? = w.heap[j.c]? := fun b' j e => hg.block _ (h.at_ e) (by simp)
  refine ⟨by simp [Conc.push, h.len], fun b' o' j e e' => ?_, fun b' j e => ?_, fun b1 b2 j1 j2 e1 e2 he => ?_, fun b' j o' oo eo ek e => ?_, fun c o' v e => ?_, ?_, h.hB, fun g cs e => CR.ext hx _ _ _ (h.glob g cs e)⟩
  · rcases get b' j e' with ⟨rfl, rfl⟩ | ⟨hlt, e''⟩
    · rw [h.len] at e
      simp at e
      subst e
      exact ho
    · have e3 : H[b']? = some o' := by
        have : b' < H.length := by rw [← h.len]; exact hlt
        simpa [List.getElem?_append_left this] using e
      exact (h.obj b' o' j e3 e'').mono hx (old b' j e'')
  · rcases get b' j e with ⟨rfl, rfl⟩ | ⟨hlt, e''⟩
    · have h1 := h.below.size
      have h2 := h.hB
      show K.B ≤ _
      omega
    · exact h.low b' j e''
  · rcases get b1 j1 e1 with ⟨rfl, rfl⟩ | ⟨hlt1, e1'⟩
    · rcases get b2 j2 e2 with ⟨rfl, rfl⟩ | ⟨hlt2, e2'⟩
      · rfl
      · have := h.at_ e2'; omega
    · rcases get b2 j2 e2 with ⟨rfl, rfl⟩ | ⟨hlt2, e2'⟩
      · have := h.at_ e1'; omega
      · exact h.inj b1 b2 j1 j2 e1' e2' he
  · rcases get b' j e with ⟨rfl, rfl⟩ | ⟨hlt, e''⟩
    · show K.imm _ _ = none
      cases hi : K.imm j.c o' with
      | none => rfl
      | some v => have := h.imm_lt hi; omega
    · refine h.off b' j o' oo ?_ ek e''
      have : b' < H.length := by rw [← h.len]; exact hlt
      simpa [List.getElem?_append_left this] using eo
  · have e' : K.imm c o' = some v := e
    rw [World.cell?_eq_of_block (hg.block c (h.imm_lt e') (by simp))]
    exact h.imm c o' v e'
  · show Below K.B K.w0 w'
    exact h.below.grown hg (Nat.le_trans h.hB h.below.size) (fun k hk => by cases hk)

theorem VR.one {K : Conc} {a : AV} {v : Value} (ho : a.one = true) (h : VR K a v) : v.oneCell' = true := by
  cases a <;> simp only [VR, AV.one] at h ho
  case bool => subst h; rfl
  case int => subst h; rfl
  case str => subst h; rfl
  case nptr => subst h; rfl
  case ptr => exact h.1
  case dptr => obtain ⟨b, o, rfl, _⟩ := h; rfl
  case nsl => subst h; rfl
  case dsl => obtain ⟨a, c, rfl, _⟩ := h; rfl
  case osl => exact h.1
  case nmap => subst h; rfl
  case mapr => exact h.1
  case fn => obtain ⟨_, fs, cs, rfl, _⟩ := h; rfl
  case yld => exact h.1
  case nfn => subst h; rfl
  case iface => obtain ⟨u, rfl, _⟩ := h; rfl
  case niface => subst h; rfl
  case agg => cases ho
  case tup => cases ho

end Go.Proofs.Ytcdnonggajoghaa
