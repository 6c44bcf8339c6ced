/- Operations over abstract values, part 4: those that write or make memory. -/
import Derived.Test.YtcdnonggajoghaaE4
namespace Go.Proofs.Ytcdnonggajoghaa
open Go Go.RowKit
set_option linter.unusedVariables false
set_option linter.unusedSimpArgs false

/-- The operation comes to this value and this heap. -/
def SOK (E : Env) (K : Conc) (w : World) (s : Sem Value) (v : AV) (H' : Heap) : Prop := ∃ K' cv w', Ext K K' ∧ s.run E.P w = .ok cv w' ∧ HR E K' H' w' ∧ VR K' v cv

section
variable {E : Env} {K : Conc} {H : Heap} {w : World} {N : Nat} {fr : Fr} {a : Act}

theorem QOK.sok {s : Sem Value} {v : AV} (hH : HR E K H w) (h : QOK E K w s v) : SOK E K w s v H := by
  obtain ⟨cv, h1, h2⟩ := h
  exact ⟨K, cv, w, Ext.refl K, h1, hH, h2⟩

theorem cells_spec {v : AV} {vs : List AV} {u : Value} (hv : v.cells = some vs) (hr : VR K v u) : VRL K vs u.cells.toList ∧ vs.all AV.one = true ∧ (∀ c ∈ u.cells.toList, c.oneCell' = true) := by
  have single : v.one = true → vs = [v] → u.cells = #[u] → _ := fun h1 h2 h3 => (show VRL K vs u.cells.toList ∧ vs.all AV.one = true ∧ (∀ c ∈ u.cells.toList, c.oneCell' = true) from by
    subst h2
    rw [h3]
    exact ⟨⟨u, [], rfl, hr, rfl⟩, by simp [h1], by simpa using hr.one h1⟩)
  cases v <;> simp only [AV.cells] at hv <;> first
    | (cases hv; done)
    | skip
  case agg cs =>
    cases hv
    simp only [VR] at hr
    obtain ⟨ho, us, rfl, hc⟩ := hr
    exact ⟨by simpa [Value.cells] using hc, ho, by simpa [Value.cells] using VRL.one ho hc⟩
  all_goals
    cases hv
    refine single rfl rfl ?_
    have h1 := hr.one rfl
    cases u <;> first | rfl | (simp [Value.oneCell'] at h1)

theorem HR.push_cells (hH : HR E K H w) {e : TypeId} {cs : List AV} {us : List Value} {arr : Array Value} (hone : cs.all AV.one = true) (hr : VRL K cs us) (hp : arr.toList.take cs.length = us) (hl : cs.length ≤ arr.size) :
    Ext K (K.push ⟨w.heap.size, arr.size, 0⟩) ∧ HR E (K.push ⟨w.heap.size, arr.size, 0⟩) (H ++ [.cells 0 e cs]) (w.alloc (.cells arr e)) ∧ (K.push ⟨w.heap.size, arr.size, 0⟩).blk[H.length]? = some ⟨w.heap.size, arr.size, 0⟩ := by
  have hx := Conc.ext_push K ⟨w.heap.size, arr.size, 0⟩
  refine ⟨hx, hH.push (Nat.le_refl _) (World.grownBy_alloc w _ none) ⟨rfl, arr, heap_alloc_new w _, rfl, hone, hl, ?_⟩, ?_⟩
  · rw [hp]
    exact VRL.ext hx _ _ hr
  · rw [← hH.len]
    simp [Conc.push]

theorem abox_sound (hH : HR E K H w) {t : TypeId} {v : AV} {u : Value} {r : AV × Heap} (hv : VR K v u) (h : abox E H t v = some r) : SOK E K w (Instr.box t u) r.1 r.2 := by
  unfold abox at h
  obtain ⟨vs, h1, h2⟩ := Option.map_eq_some_iff.1 h
  subst h2
  obtain ⟨c1, c2, c3⟩ := cells_spec h1 hv
  have hl := c1.length
  obtain ⟨e1, e2, e3⟩ := hH.push_cells (e := t) (arr := u.cells) c2 c1 (by rw [hl]; exact List.take_length) (by simp at hl; omega)
  exact ⟨_, _, _, e1, by simp [Instr.box, newVar, newRow], e2, VR.mk_ptr e3 rfl⟩

theorem aalloc_sound (hH : HR E K H w) {t : TypeId} {r : AV × Heap} (h : aalloc E H t = some r) : SOK E K w (Instr.alloc t true (.tuple #[])) r.1 r.2 := by
  unfold aalloc at h
  obtain ⟨x, h1, h2⟩ := Option.map_eq_some_iff.1 h
  subst h2
  obtain ⟨z, z1, z2, z3⟩ := run_zero (E.ti_ok _ _ h1) w
  obtain ⟨c1, c2⟩ := ofCells_sound (K := K) _ _ z2
  have hl := c1.length
  obtain ⟨e1, e2, e3⟩ := hH.push_cells (e := t) (arr := z.cells) c2 c1 (by rw [hl]; exact List.take_length) (by simp at hl; omega)
  exact ⟨_, _, _, e1, by simp [Instr.alloc, z1, newVar, newRow], e2, VR.mk_ptr e3 rfl⟩

theorem splice_length {cs vs : List AV} {o : Nat} (h : o + vs.length ≤ cs.length) : (splice cs o vs).length = cs.length := by
  simp [splice]; omega

theorem VRL.splice {cs vs : List AV} {us xs : List Value} {o : Nat} (h : VRL K cs us) (h' : VRL K vs xs) : VRL K (splice cs o vs) (us.take o ++ xs ++ us.drop (o + xs.length)) := by
  unfold Ytcdnonggajoghaa.splice
  have := h'.length
  rw [this]
  exact ((h.take o).append h').append (h.drop _)

theorem all_splice {cs vs : List AV} {o : Nat} (h : cs.all AV.one = true) (h' : vs.all AV.one = true) : (splice cs o vs).all AV.one = true := by
  rw [List.all_eq_true] at h h' ⊢
  intro x hx
  unfold splice at hx
  rcases List.mem_append.1 hx with hx | hx
  · rcases List.mem_append.1 hx with hx | hx
    · exact h x (List.mem_of_mem_take hx)
    · exact h' x hx
  · exact h x (List.mem_of_mem_drop hx)

theorem grownBy_setRow (w : World) (g : Nat) (c : Array Value) : w.grownBy (w.setRow g c) (some g) := by
  refine ⟨rfl, rfl, rfl, by simp [World.setRow], fun k hk hne => ?_⟩
  have : g ≠ k := fun h => hne (by rw [h])
  simp [World.setRow, Array.getElem?_modify, this]

theorem astore_sound (hH : HR E K H w) {t : TypeId} {p v : AV} {pv u : Value} {H' : Heap} (hp : VR K p pv) (hv : VR K v u) (h : astore E H t p v = some H') :
    ∃ K' w', Ext K K' ∧ (Instr.storeAt t pv u).run E.P w = .ok () w' ∧ HR E K' H' w' := by
  unfold astore at h
  split at h
  · rename_i x b ver off vs hx hvs
    split at h
    · rename_i v' e cs hb
      split at h
      · rename_i hc
        obtain ⟨rfl, hsz, hfit⟩ := hc
        cases h
        obtain ⟨i, arr, e', cs', hb', hi, hver, harr, hroom, hone, hlen, hvr⟩ := live_spec hH (live_of hb)
        rw [hb] at hb'
        cases hb'
        have := hp.ptr_eq hi hver
        subst this
        obtain ⟨c1, c2, c3⟩ := cells_spec hvs hv
        have hl := c1.length
        have hrun := run_storeCells_at E.P i.c off e u.cells.toList 0 arr w harr (by simp at hl ⊢; omega) c3
        simp only [Nat.add_zero] at hrun
        have hus : u.cells.size = x.size := by simp at hl; omega
        have hrun' : (Instr.storeAt t (.pointer (some ⟨i.c, off, none⟩)) u).run E.P w = .ok () (w.setRow i.c (arr.toList.take off ++ u.cells.toList ++ arr.toList.drop (off + u.cells.toList.length)).toArray) := by
          simp only [Instr.storeAt, Instr.sureAddr, storeVar, Sem.run_bind, Sem.run_pure, Result.andThen_ok, run_sizeOf' (E.ti_ok _ _ hx), hus, ne_eq, not_true_eq_false, if_false, hrun]
        have hor : OR (K.upd b i) (.cells v' e (splice cs off vs)) i (w.setRow i.c (arr.toList.take off ++ u.cells.toList ++ arr.toList.drop (off + u.cells.toList.length)).toArray) := ?_
        · exact ⟨K.upd b i, _, Conc.ext_upd hi (Nat.le_refl _) (fun _ => rfl), hrun', hH.upd hb rfl hi (Nat.le_refl _) (fun _ => rfl) (.inl rfl) (grownBy_setRow w i.c _) hor⟩
        · have hx' := Conc.ext_upd (K := K) hi (Nat.le_refl _) (fun _ => rfl)
          refine ⟨hver, _, setRow_heap w i.c _ _ _ _ harr, ?_, all_splice hone c2, ?_, ?_⟩
          · simp at hl
            simp
            omega
          · rw [splice_length hfit]
            simp at hl
            simp
            omega
          · rw [splice_length hfit]
            have h6 := VRL.splice (o := off) hvr c1
            have e6 : List.take cs.length (arr.toList.take off ++ u.cells.toList ++ arr.toList.drop (off + u.cells.toList.length)) = (arr.toList.take cs.length).take off ++ u.cells.toList ++ (arr.toList.take cs.length).drop (off + u.cells.toList.length) := by
              have l1 : (arr.toList.take off).length = off := by simp; omega
              simp at hl
              rw [List.append_assoc, List.take_append, l1, List.take_of_length_le (by rw [l1]; omega), List.take_append, List.take_of_length_le (l := u.cells.toList) (by simp; omega), List.take_take, Nat.min_eq_left (by omega), List.append_assoc]
              congr 2
              rw [List.drop_take]
              congr 1
              simp
              omega
            simp only [List.toList_toArray] at *
            rw [e6]
            exact VRL.ext hx' _ _ h6
      · cases h
    · cases h
  · cases h

/-! ### Literals -/
theorem foldl_set (off : Nat) : ∀ (vs : List Value) (n : Nat) (cs : Array Value), off + n + vs.length ≤ cs.size →
    ((vs.zipIdx n).foldl (fun cs (p : Value × Nat) => cs.setIfInBounds (off + p.2) p.1) cs) = (cs.toList.take (off + n) ++ vs ++ cs.toList.drop (off + n + vs.length)).toArray
  | [], n, cs, _ => by simp
  | v :: vs, n, cs, h => by
    simp only [List.zipIdx_cons, List.foldl_cons]
    simp only [List.length_cons] at h
    rw [foldl_set off vs (n + 1) _ (by simp; omega)]
    congr 1
    have hlt : off + n < cs.toList.length := by rw [Array.length_toList]; omega
    simp only [Array.toList_setIfInBounds, List.length_cons]
    rw [show off + (n + 1) = (off + n) + 1 by omega, List.take_succ_eq_append_getElem (by simpa using hlt)]
    simp only [List.getElem_set_self, List.append_assoc, List.singleton_append, List.cons_append]
    rw [List.take_set_of_le (Nat.le_refl _), List.drop_set_of_lt (by omega)]
    have : off + n + 1 + vs.length = off + n + (vs.length + 1) := by omega
    rw [this, List.nil_append]

theorem afill_sound {place : Nat → Option (Nat × Nat)} : ∀ {parts : List (Nat × AV)} {cs cs' : List AV} {us : Array Value} {ps : List (Nat × Value)},
    cs.all AV.one = true → VRL K cs us.toList → parts.map (·.1) = ps.map (·.1) → VRL K (parts.map (·.2)) (ps.map (·.2)) → afill place cs parts = some cs' →
    ∃ us', Instr.fill place us ps = some us' ∧ VRL K cs' us'.toList ∧ cs'.all AV.one = true ∧ cs'.length = cs.length
  | [], cs, cs', us, ps, ho, hr, he, hp, h => by
    simp only [afill] at h
    cases h
    have : ps = [] := by simpa using he.symm
    subst this
    exact ⟨us, rfl, hr, ho, rfl⟩
  | (i, v) :: rest, cs, cs', us, ps, ho, hr, he, hp, h => by
    cases ps with
    | nil => simp at he
    | cons q ps =>
      obtain ⟨j, u⟩ := q
      simp only [List.map_cons, List.cons.injEq] at he
      obtain ⟨rfl, he⟩ := he
      simp only [List.map_cons, VRL] at hp
      obtain ⟨u', us', e, hv, hp⟩ := hp
      obtain ⟨rfl, rfl⟩ := List.cons.inj e
      simp only [afill] at h
      split at h
      · rename_i off size vs hpl hvs
        split at h
        · rename_i hc
          obtain ⟨hsz, hfit⟩ := hc
          obtain ⟨c1, c2, c3⟩ := cells_spec hvs hv
          have hl := c1.length
          have hl2 := hr.length
          simp at hl hl2
          have hfold := foldl_set off u.cells.toList 0 us (by simp; omega)
          simp only [Nat.add_zero] at hfold
          have hr' := VRL.splice (o := off) hr c1
          obtain ⟨us'', h1, h2, h3, h4⟩ := afill_sound (us := (us.toList.take off ++ u.cells.toList ++ us.toList.drop (off + u.cells.toList.length)).toArray) (all_splice ho c2) (by simpa using hr') he hp h
          refine ⟨us'', ?_, h2, h3, by rw [h4, splice_length hfit]⟩
          simp only [Instr.fill, hpl]
          have hcond : ¬ ((decide (u.cells.size ≠ size) || decide (off + u.cells.size > us.size)) = true) := by
            simp
            omega
          rw [if_neg hcond]
          have hz : (u.cells.zipIdx.foldl (fun cs (p : Value × Nat) => cs.setIfInBounds (off + p.2) p.1) us) = (us.toList.take off ++ u.cells.toList ++ us.toList.drop (off + u.cells.toList.length)).toArray := by
            rw [← hfold, ← Array.foldl_toList, Array.toList_zipIdx]
          exact (congrArg (fun z => Instr.fill place z ps) hz).trans h1
        · cases h
      · cases h

theorem reps_zero (z : List AV) : reps 0 z = [] := rfl
theorem reps_succ (n : Nat) (z : List AV) : reps (n + 1) z = z ++ reps n z := by simp [reps, List.replicate_succ]
theorem reps_length (n : Nat) (z : List AV) : (reps n z).length = n * z.length := by simp [reps]
theorem reps_all {n : Nat} {z : List AV} (h : z.all AV.one = true) : (reps n z).all AV.one = true := by
  rw [List.all_eq_true] at h ⊢
  intro x hx
  simp only [reps, List.mem_flatten, List.mem_replicate] at hx
  obtain ⟨l, ⟨_, rfl⟩, hx⟩ := hx
  exact h x hx
theorem VRL.reps {z : List AV} {zv : List Value} (h : VRL K z zv) : ∀ n, VRL K (reps n z) (List.replicate n zv).flatten
  | 0 => rfl
  | n + 1 => by
    rw [reps_succ, List.replicate_succ, List.flatten_cons]
    exact h.append (VRL.reps h n)

theorem toList_made (z : Array Value) : ∀ n, ((Array.range (n * z.size)).map (z[· % z.size]!)).toList = (List.replicate n z.toList).flatten
  | 0 => by simp
  | n + 1 => by
    have ih := toList_made z n
    rw [List.replicate_succ', List.flatten_append, ← ih]
    simp only [Array.toList_map, Array.toList_range, Nat.add_mul, Nat.one_mul, List.range_add, List.map_append, List.flatten_cons, List.flatten_nil, List.append_nil, List.map_map]
    congr 1
    apply List.ext_getElem?
    intro j
    by_cases hj : j < z.size
    · simp [hj, Nat.mul_add_mod_of_lt, Nat.mul_comm n, Nat.mul_add_mod, Nat.mod_eq_of_lt hj]
    · simp [hj]

theorem run_buildSlice (w : World) {t elem : TypeId} {x : TI} {len : Nat} {ps : Array (Nat × Value)} {us : Array Value} (hu : E.P.underlying t = some (.slice elem)) (hx : tinfo E.P elem = some x) (hs : len * x.size ≤ 16777216)
    {z : Value} (hz : (zeroValue elem).run E.P w = .ok z w) (hzs : z.cells.size = x.size)
    (hf : Instr.fill (fun i => some (i * x.size, x.size)) (List.replicate len z.cells.toList).flatten.toArray ps.toList = some us) :
    (Instr.buildSlice t len ps).run E.P w = .ok (.slice (some ⟨w.heap.size, 0, none⟩) len len) (w.alloc (.cells us elem)) := by
  have hmade := toList_made z.cells len
  rw [hzs] at hmade
  have hns : ¬ len * x.size > 2 ^ 24 := by omega
  by_cases h0 : len * x.size = 0
  · have e0 : (List.replicate len z.cells.toList).flatten.toArray = ((Array.range (len * x.size)).map ((#[] : Array Value)[· % (#[] : Array Value).size]!)) := by
      rw [← hmade, h0]
      simp
    rw [e0] at hf
    rw [h0] at hf
    have er : ∀ f : Nat → Value, (Array.range 0).map f = #[] := fun f => by simp [Array.range_zero']
    rw [er] at hf
    simp [Instr.buildSlice, run_underlying hu, run_sizeOf' hx, hns, h0, er, hf, newRow]
  · have e0 : (List.replicate len z.cells.toList).flatten.toArray = ((Array.range (len * x.size)).map (z.cells[· % z.cells.size]!)) := by
      rw [← hmade, hzs]
    rw [e0] at hf
    simp [Instr.buildSlice, run_underlying hu, run_sizeOf' hx, hns, h0, hz, hf, newRow]

theorem fplaces_spec {P : Program} {t : TypeId} {fields : Array Field} {pl : Array (Nat × Nat)} (hu : P.underlying t = some (.struct fields)) (h : fplaces P t = some pl) (w : World) :
    Sem.run P (fields.mapM fun f => do pure (f.offset, ← sizeOf f.type)) w = .ok pl w := by
  unfold fplaces at h
  rw [hu] at h
  exact prun_run h w

theorem abuild_sound (hH : HR E K H w) {t : TypeId} {parts : List (Nat × AV)} {ps : Array (Nat × Value)} {v : AV} (he : parts.map (·.1) = ps.toList.map (·.1)) (hp : VRL K (parts.map (·.2)) (ps.toList.map (·.2)))
    (h : abuild E t parts = some v) : QOK E K w (Instr.build t ps) v := by
  unfold abuild at h
  split at h
  · rename_i x hx
    obtain ⟨i, z, h1, hu, h3, h4, h5, h6, h7, _⟩ := tinfo_spec (E.ti_ok _ _ hx)
    obtain ⟨z', z1, z2, z3⟩ := run_zero (E.ti_ok _ _ hx) w
    obtain ⟨c1, c2⟩ := ofCells_sound (K := K) _ _ z2
    split at h
    · rename_i fields hd
      have hun : E.un t = some (.struct fields) := by simp [Env.un, hx, hd]
      split at h
      · rename_i pl hpl
        obtain ⟨cs, h8, h9⟩ := Option.map_eq_some_iff.1 h
        subst h9
        obtain ⟨us, g1, g2, g3, g4⟩ := afill_sound (us := z'.cells) c2 c1 he hp h8
        have hrun := fplaces_spec (Env.un_ok hun) (E.pl_ok _ _ hpl) w
        exact ⟨.agg us, by simp only [Instr.build, Sem.run_bind, z1, Result.andThen_ok, run_underlying (Env.un_ok hun), hrun, g1]; rfl, g3, us, rfl, g2⟩
      · cases h
    · rename_i n elem hd
      have hun : E.un t = some (.array n elem) := by simp [Env.un, hx, hd]
      split at h
      · rename_i y hy
        obtain ⟨cs, h8, h9⟩ := Option.map_eq_some_iff.1 h
        subst h9
        obtain ⟨us, g1, g2, g3, g4⟩ := afill_sound (us := z'.cells) c2 c1 he hp h8
        exact ⟨.agg us, by simp [Instr.build, z1, run_underlying (Env.un_ok hun), run_sizeOf' (E.ti_ok _ _ hy), g1], g3, us, rfl, g2⟩
      · cases h
    · cases h
  · cases h

theorem len_le_max {n : Nat} (h : n ≤ 281474976710656) : n ≤ maxLen := by simp only [maxLen]; omega

theorem abuildSlice_sound (hH : HR E K H w) {t : TypeId} {len : Nat} {parts : List (Nat × AV)} {ps : Array (Nat × Value)} {r : AV × Heap} (he : parts.map (·.1) = ps.toList.map (·.1)) (hp : VRL K (parts.map (·.2)) (ps.toList.map (·.2)))
    (h : abuildSlice E H t len parts = some r) : SOK E K w (Instr.buildSlice t len ps) r.1 r.2 := by
  unfold abuildSlice at h
  split at h
  · rename_i elem hu
    split at h
    · rename_i x hx
      split at h
      · rename_i hs
        obtain ⟨hs, hm⟩ := hs
        obtain ⟨z', z1, z2, z3⟩ := run_zero (E.ti_ok _ _ hx) w
        obtain ⟨c1, c2⟩ := ofCells_sound (K := K) _ _ z2
        obtain ⟨cs, h8, h9⟩ := Option.map_eq_some_iff.1 h
        subst h9
        obtain ⟨us, g1, g2, g3, g4⟩ := afill_sound (us := (List.replicate len z'.cells.toList).flatten.toArray) (reps_all c2) (by simpa using c1.reps len) he hp h8
        have hrun := run_buildSlice w (Env.un_ok hu) (E.ti_ok _ _ hx) hs z1 z3 g1
        have hl := g2.length
        have hl0 := c1.length
        have hl1 : cs.length = len * x.size := by
          rw [g4, reps_length, hl0]
          simp [z3]
        obtain ⟨e1, e2, e3⟩ := hH.push_cells (e := elem) (arr := us) g3 g2 (by rw [hl]; exact List.take_length) (by simp at hl; omega)
        refine ⟨_, _, _, e1, hrun, e2, VR.mk_osl e3 rfl (Nat.le_refl _) (len_le_max (by omega)) ?_⟩
        simp at hl
        simp
        omega
      · cases h
    · cases h
  · cases h

theorem amakeSlice_sound (hH : HR E K H w) {t : TypeId} {l c : AV} {lv cv : Value} {r : AV × Heap} (hl : VR K l lv) (hc : VR K c cv) (h : amakeSlice E H t l c = some r) : SOK E K w (Instr.makeSlice t lv cv) r.1 r.2 := by
  unfold amakeSlice at h
  split at h
  · rename_i elem k n k' m hu
    simp only [VR] at hl hc
    subst hl hc
    split at h
    · rename_i y hy
      split at h
      · rename_i hb
        obtain ⟨h0, h1, h2, h3⟩ := hb
        cases h
        obtain ⟨i, z, i1, i2, i3, i4, i5, i6, i7, _⟩ := tinfo_spec (E.ti_ok _ _ hy)
        have hrun := run_make (P := E.P) w t elem i z (Env.un_ok hu) i1 i3 k k' n m h0 h1 (by rw [i6]; have : (m.toNat : Int) = m := Int.toNat_of_nonneg (by omega); rw [← this, ← Int.natCast_mul]; omega) (by omega)
        obtain ⟨c1, c2⟩ := ofCells_sound (K := K) _ _ i4
        have hmade : (madeCells z.cells (m.toNat * i.size)).toList = (List.replicate m.toNat z.cells.toList).flatten := by
          have := toList_made z.cells m.toNat
          rw [i7] at this
          rw [← this]
          simp [madeCells, i7]
        have hzl : z.cells.toList.length = y.size := by simp [i7, i5]
        have hsplit : (List.replicate m.toNat z.cells.toList).flatten = (List.replicate n.toNat z.cells.toList).flatten ++ (List.replicate (m.toNat - n.toNat) z.cells.toList).flatten := by
          rw [← List.flatten_append, List.replicate_append_replicate, show n.toNat + (m.toNat - n.toNat) = m.toNat by omega]
        have hrl : (reps n.toNat y.zero).length = n.toNat * y.size := by rw [reps_length, c1.length, hzl]
        have hfl : (List.replicate n.toNat z.cells.toList).flatten.length = n.toNat * y.size := by simp [i7, i5]
        have hsz : (madeCells z.cells (m.toNat * i.size)).size = m.toNat * y.size := by simp [madeCells, i5]
        have hmul : n.toNat * y.size ≤ m.toNat * y.size := Nat.mul_le_mul_right _ (by omega)
        obtain ⟨e1, e2, e3⟩ := hH.push_cells (e := elem) (arr := madeCells z.cells (m.toNat * i.size)) (us := (List.replicate n.toNat z.cells.toList).flatten) (reps_all c2) (c1.reps _)
          (by rw [hmade, hsplit, hrl, ← hfl, List.take_left]) (by rw [hrl, hsz]; exact hmul)
        refine ⟨_, _, _, e1, hrun, e2, VR.mk_osl e3 rfl (by omega) (len_le_max (by omega)) ?_⟩
        simp [hsz]
      · cases h
    · cases h
  · cases h

end

end Go.Proofs.Ytcdnonggajoghaa
