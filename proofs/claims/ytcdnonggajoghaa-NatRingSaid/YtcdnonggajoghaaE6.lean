/- Operations over abstract values, part 5: append; and all operations together. -/
import Derived.Test.YtcdnonggajoghaaE5
import Derived.Maps.AppendAt
namespace Go.Proofs.Ytcdnonggajoghaa
open Go Go.RowKit
set_option linter.unusedVariables false
set_option linter.unusedSimpArgs false

section
variable {E : Env} {K : Conc} {H : Heap} {w : World} {N : Nat} {fr : Fr} {a : Act}

/-- What a slice leads to, in the machine's world. -/
theorem sliceCells_spec (hH : HR E K H w) {x : AV} {xv : Value} {cs : List AV} {m : Nat} (hx : VR K x xv) (h : sliceCells H x = some (cs, m)) :
    ∃ a c us, xv = .slice a m c ∧ VRL K cs us ∧ cs.all AV.one = true ∧ (us ≠ [] → ∃ b o, a = some ⟨b, o, none⟩ ∧ ∀ j u, us[j]? = some u → w.cell? ⟨b, o + j, none⟩ = some u) := by
  unfold sliceCells at h
  split at h
  · cases h
    simp only [VR] at hx
    subst hx
    exact ⟨none, 0, [], rfl, rfl, rfl, fun hne => absurd rfl hne⟩
  · rename_i cs' len
    cases h
    simp only [VR] at hx
    obtain ⟨a, c, rfl, _, hcr⟩ := hx
    cases cs with
    | nil => exact ⟨a, c, [], rfl, rfl, rfl, fun hne => absurd rfl hne⟩
    | cons d ds =>
      obtain ⟨b, o, rfl, hc⟩ := hcr (by simp)
      obtain ⟨us, h1, h2, h3⟩ := hc.values
      exact ⟨_, c, us, rfl, h1, h3, fun _ => ⟨b, o, rfl, fun j u hu => hH.imm _ _ _ (h2 j u hu)⟩⟩
  · rename_i b ver off len sz
    split at h
    · rename_i v e cs' hb
      split at h
      · rename_i hv
        subst hv
        cases h
        obtain ⟨i, arr, e', cs'', hb', hi, hver, harr, hroom, hone, hlen, hvr⟩ := live_spec hH (live_of hb)
        rw [hb] at hb'
        cases hb'
        obtain ⟨cap, rfl, _⟩ := hx.osl_eq hi hver
        refine ⟨_, cap, ((arr.toList.take cs'.length).drop off).take (m * sz), rfl, (hvr.drop off).take _, ?_, fun _ => ⟨i.c, off, rfl, fun j u hu => ?_⟩⟩
        · rw [List.all_eq_true] at hone ⊢
          exact fun y hy => hone y (List.mem_of_mem_drop (List.mem_of_mem_take hy))
        · rw [List.getElem?_take] at hu
          split at hu
          · rw [List.getElem?_drop, List.getElem?_take] at hu
            split at hu
            · simp [World.cell?, harr]
              simpa using hu
            · cases hu
          · cases hu
      · cases h
    · cases h
  · cases h

theorem append_types {P : Program} {t u e e' : TypeId} {ty : TypeId} {s x : Value} {w : World} {y : TI} (ht : P.underlying t = some (.slice e)) (hu : P.underlying u = some (.slice e')) (hy : tinfo P e = some y) :
    (Builtin.append_ #[t, u] ty #[s, x]).run P w = (Builtin.append_ #[t, t] ty #[s, x]).run P w := by
  cases s <;> simp [Builtin.append_, run_underlying ht, run_underlying hu, run_sizeOf' hy]

theorem run_append_zero {P : Program} {t e : TypeId} {ty : TypeId} {x : TI} (ht : P.underlying t = some (.slice e)) (hx : tinfo P e = some x) {base ax : Option Addr} {n cap c : Nat} (hn : n ≤ cap) (w : World) :
    (Builtin.append_ #[t, t] ty #[.slice base n cap, .slice ax 0 c]).run P w = .ok (.slice base n cap) w := by
  cases ax with
  | none => cases base <;> simp [Builtin.append_, run_underlying ht, run_sizeOf' hx, Builtin.lenOf, Builtin.firstCells, hn, storeCells]
  | some ad => cases base <;> simp [Builtin.append_, run_underlying ht, run_sizeOf' hx, Builtin.lenOf, Builtin.firstCells, hn, storeCells, loadCells, loadCellsFrom]

theorem OR.cells_mk {ver e : Nat} {cs : List AV} {i : BI} {arr : Array Value} (h1 : i.ver = ver) (h2 : w.heap[i.c]? = some (.cells arr e (0, 0))) (h3 : arr.size = i.room) (h4 : cs.all AV.one = true)
    {us : List Value} (h5 : VRL K cs us) (h6 : arr.toList.take us.length = us) : OR K (.cells ver e cs) i w := by
  have hl := h5.length
  refine ⟨h1, arr, h2, h3, h4, ?_, ?_⟩
  · have : (arr.toList.take us.length).length = us.length := congrArg List.length h6
    simp at this
    omega
  · rw [hl, h6]
    exact h5

theorem aappend_sound (hH : HR E K H w) {t u ty : TypeId} {s x : AV} {sv xv : Value} {r : AV × Heap} (hs : VR K s sv) (hx : VR K x xv) (h : aappend E H t u s x = some r) : SOK E K w (Builtin.append_ #[t, u] ty #[sv, xv]) r.1 r.2 := by
  unfold aappend at h
  split at h
  · rename_i elem elem' ht hu
    split at h
    · rename_i y news m hy hn
      unfold SOK
      rw [append_types (Env.un_ok ht) (Env.un_ok hu) (E.ti_ok _ _ hy)]
      split at h
      · rename_i hc
        obtain ⟨hnl, hsz⟩ := hc
        obtain ⟨i, z, i1, i2, i3, i4, i5, i6, i7, _⟩ := tinfo_spec (E.ti_ok _ _ hy)
        obtain ⟨ax, c, us, rfl, hvr, hone, hcell⟩ := sliceCells_spec hH hx hn
        have hul := hvr.length
        have husl : us.length = m * y.size := by omega
        have hone' := VRL.one hone hvr
        split at h
        · -- onto nil
          simp only [VR] at hs
          subst hs
          split at h
          · rename_i hm
            subst hm
            cases h
            exact ⟨K, _, w, Ext.refl K, run_append_zero (Env.un_ok ht) (E.ti_ok _ _ hy) (Nat.le_refl _) w, hH, rfl⟩
          · rename_i hm
            split at h
            · rename_i hb
              cases h
              have hne : us ≠ [] := by
                intro h0
                have h1 := Nat.mul_pos (show 0 < m by omega) hsz
                rw [h0, List.length_nil] at husl
                omega
              obtain ⟨b, o, rfl, hcells⟩ := hcell hne
              obtain ⟨v', w', hrun, hown, hg, hnil, hat⟩ := run_append_own_at (P := E.P) w K.B t ty elem i z y.size y.bytes (Env.un_ok ht) i1 i3 i5 i6 (by rw [i7, i5]) hsz (.slice none 0 0) 0 [] (World.ownsRow_nil w K.B elem y.size)
                ⟨b, o, none⟩ m c us husl (fun j q hq => by rw [add_off]; exact hcells j q hq) hone' (by simp only [maxLen]; omega) (by rw [Nat.zero_add]; exact hb.1) (Nat.le_trans hH.hB hH.below.size)
              rcases hat with hat | hat
              · exfalso
                rcases hown.2 with ⟨rfl, h0⟩ | ⟨g, cap, cur, rfl, _⟩
                · omega
                · simp [Value.ownBlock] at hat
              · rcases hown.2 with ⟨rfl, h0⟩ | ⟨g, cap, cur, rfl, hbg, hg2, hnc, hcm, hcs, htake⟩
                · simp [Value.ownBlock] at hat
                · have hgw : g = w.heap.size := by simpa [Value.ownBlock] using hat
                  subst hgw
                  simp only [Nat.zero_add, List.nil_append] at *
                  have hx' := Conc.ext_push K ⟨w.heap.size, cur.size, 0⟩
                  refine ⟨K.push ⟨w.heap.size, cur.size, 0⟩, _, w', hx', hrun, hH.push (Nat.le_refl _) (by simpa [Value.ownBlock] using hg) (OR.cells_mk rfl hg2 rfl hone (VRL.ext hx' _ _ hvr) (by rw [husl]; exact htake)), ?_⟩
                  refine VR.mk_osl (i := ⟨w.heap.size, cur.size, 0⟩) ?_ rfl hnc hcm ?_
                  · rw [← hH.len]; simp [Conc.push]
                  · simp [hcs]
            · cases h
        · -- onto a row of the call's own
          rename_i b ver len sz
          split at h
          · rename_i v e cs hb
            split at h
            · rename_i hc2
              obtain ⟨rfl, rfl, rfl, hfit, hby, hmx⟩ := hc2
              cases h
              obtain ⟨j, arr, e', cs', hb', hj, hver, harr, hroom, hone2, hlen2, hvr2⟩ := live_spec hH (live_of hb)
              rw [hb] at hb'
              cases hb'
              obtain ⟨cap, rfl, hc1, hcm, hcr⟩ := hs.osl_eq hj hver
              have hb2 : b < H.length := (List.getElem?_eq_some_iff.1 hb).1
              have hl2 := hvr2.length
              have hown0 : w.ownsRow K.B e y.size (.slice (some ⟨j.c, 0, none⟩) len cap) len (arr.toList.take (len * y.size)) := by
                refine ⟨by simp at hl2 ⊢; omega, .inr ⟨j.c, cap, arr, rfl, hH.low _ _ hj, harr, hc1, hcm, by omega, rfl⟩⟩
              have hvr3 : VRL K (cs.take (len * y.size)) (arr.toList.take (len * y.size)) := by
                have := hvr2.take (len * y.size)
                rwa [List.take_take, Nat.min_eq_left hfit] at this
              have hone3 : (cs.take (len * y.size) ++ news).all AV.one = true := by
                rw [List.all_append, hone]
                rw [List.all_eq_true] at hone2
                simp only [Bool.and_true, List.all_eq_true]
                exact fun q hq => hone2 q (List.mem_of_mem_take hq)
              by_cases hm : m = 0
              · subst hm
                have hnn : news = [] := List.eq_nil_of_length_eq_zero (by simpa using hnl)
                subst hnn
                have hx' := Conc.ext_upd (K := K) (i' := { j with ver := v + 1 }) hj (by simp; omega) (fun hh => by simp at hh; omega)
                refine ⟨K.upd b { j with ver := v + 1 }, _, w, hx', run_append_zero (Env.un_ok ht) (E.ti_ok _ _ hy) hc1 w, hH.upd hb rfl (i' := { j with ver := v + 1 }) hj (by simp; omega) (fun hh => by simp at hh; omega) (.inl rfl) ⟨rfl, rfl, rfl, Nat.le_refl _, fun _ _ _ => rfl⟩ (OR.cells_mk rfl harr hroom (by simpa using hone3) (VRL.ext hx' _ _ (by simpa using hvr3)) ?_), ?_⟩
                · simp at hl2
                  simp [Nat.min_eq_left (show len * y.size ≤ arr.size by omega)]
                · refine VR.mk_osl (i := { j with ver := v + 1 }) (by simp [Conc.upd, hH.len, hb2]) rfl hc1 hcm hcr
              · have hne : us ≠ [] := by
                  intro h0
                  have h1 := Nat.mul_pos (show 0 < m by omega) hsz
                  rw [h0, List.length_nil] at husl
                  omega
                obtain ⟨bb, o, rfl, hcells⟩ := hcell hne
                obtain ⟨v', w', hrun, hown, hg, hnil, hat⟩ := run_append_own_at (P := E.P) w K.B t ty e i z y.size y.bytes (Env.un_ok ht) i1 i3 i5 i6 (by rw [i7, i5]) hsz _ len _ hown0
                  ⟨bb, o, none⟩ m c us husl (fun j q hq => by rw [add_off]; exact hcells j q hq) hone' (by simp only [maxLen]; omega) (by omega) (Nat.le_trans hH.hB hH.below.size)
                rcases hown.2 with ⟨rfl, h0⟩ | ⟨g, cap', cur, rfl, hbg, hg2, hnc, hcm', hcs, htake⟩
                · omega
                · have hgc : g = j.c ∨ w.heap.size ≤ g := by
                    rcases hat with hat | hat
                    · left; simpa [Value.ownBlock] using hat
                    · right
                      have : g = w.heap.size := by simpa [Value.ownBlock] using hat
                      omega
                  have hx' := Conc.ext_upd (K := K) (i' := ⟨g, cur.size, v + 1⟩) hj (by simp; omega) (fun hh => by simp at hh; omega)
                  refine ⟨K.upd b ⟨g, cur.size, v + 1⟩, _, w', hx', hrun, hH.upd hb rfl (i' := ⟨g, cur.size, v + 1⟩) hj (by simp; omega) (fun hh => by simp at hh; omega) hgc (by simpa [Value.ownBlock] using hg) (OR.cells_mk rfl hg2 rfl hone3 (VRL.ext hx' _ _ (hvr3.append hvr)) ?_), ?_⟩
                  · have hlx : (arr.toList.take (len * y.size) ++ us).length = (len + m) * y.size := by
                      simp at hl2
                      rw [List.length_append, husl, Nat.add_mul]
                      simp
                      omega
                    rw [hlx]
                    exact htake
                  · refine VR.mk_osl (i := ⟨g, cur.size, v + 1⟩) (by simp [Conc.upd, hH.len, hb2]) rfl hnc hcm' ?_
                    simp [hcs]
            · cases h
          · cases h
        · cases h
      · cases h
    · cases h
  · cases h

theorem evo_sound (hH : HR E K H w) (hF : FR K N fr a.tmps) {x : Option Operand} {v : Option AV} (h : evo E fr x = some v) : (v = none ∧ x.map a.eval = none) ∨ ∃ b u, v = some b ∧ x.map a.eval = some u ∧ VR K b u := by
  cases x with
  | none => simp only [evo] at h; cases h; exact .inl ⟨rfl, rfl⟩
  | some x =>
    obtain ⟨b, h1, h2⟩ := Option.map_eq_some_iff.1 h
    subst h2
    exact .inr ⟨b, _, rfl, rfl, ev_sound hH hF h1⟩

theorem run_zv {t : TypeId} {x : TI} {v : AV} (h : tinfo E.P t = some x) (hz : x.zv = some v) : ∃ z, (zeroValue t).run E.P w = .ok z w ∧ VR K v z := by
  obtain ⟨i, z, h1, h2, h3, h4, h5, h6, h7, h8⟩ := tinfo_spec h
  obtain ⟨c1, c2⟩ := ofCells_sound (K := K) _ _ h4
  refine ⟨z, by simp [zeroValue, typeInfo, h1, h3], ?_⟩
  unfold TI.zv TI.isAgg at hz
  split at hz
  · rename_i hagg
    cases hz
    rw [hagg] at h8
    cases z <;> simp [valAgg] at h8
    rename_i us
    exact ⟨c2, us, rfl, by simpa [Value.cells] using c1⟩
  · rename_i hagg
    split at hz
    · rename_i y hy
      cases hz
      rw [hy] at c1
      have hf : valAgg z = false := by
        rw [h8]
        cases hd : descAgg x.desc
        · rfl
        · exact absurd hd hagg
      have hc : z.cells = #[z] := by cases z <;> first | rfl | (simp [valAgg] at hf)
      rw [hc] at c1
      simp only [VRL] at c1
      obtain ⟨u, us, e, hu, _⟩ := c1
      have : u = z := by
        have := congrArg List.head? e
        simpa using this.symm
      rw [← this]
      exact hu
    · cases hz

theorem aassert_sound {x v : AV} {xv : Value} {xt asserted : TypeId} {ok : Bool} (hx : VR K x xv) (h : aassert E x asserted ok = some v) : QOK E K w (Instr.typeAssert xv xt asserted ok) v := by
  unfold aassert at h
  split at h
  · cases h
  · rename_i d t u hni hu
    simp only [VR] at hx
    obtain ⟨y, rfl, hy⟩ := hx
    split at h
    · rename_i ht
      cases h
      refine ⟨if ok then .tuple #[y, .bool true] else y, ?_, ?_⟩
      · unfold Instr.typeAssert
        simp only [Sem.run_bind, run_underlying (Env.un_ok hu), Result.andThen_ok]
        cases d <;> first | exact absurd rfl (hni _) | (cases ok <;> simp [ht])
      · cases ok
        · exact hy
        · exact ⟨_, rfl, y, _, rfl, hy, _, _, rfl, rfl, rfl⟩
    · rename_i ht
      split at h
      · rename_i hok
        split at h
        · rename_i z hz
          obtain ⟨q, h1, h2⟩ := Option.map_eq_some_iff.1 h
          subst h2 hok
          obtain ⟨zv, z1, z2⟩ := run_zv (K := K) (w := w) (E.ti_ok _ _ hz) h1
          refine ⟨.tuple #[zv, .bool false], ?_, _, rfl, zv, _, rfl, z2, _, _, rfl, rfl, rfl⟩
          unfold Instr.typeAssert
          simp only [Sem.run_bind, run_underlying (Env.un_ok hu), Result.andThen_ok]
          cases d <;> first | exact absurd rfl (hni _) | simp [ht, z1]
        · cases h
      · cases h
  · cases h

theorem abuiltin_sound (hH : HR E K H w) {b : Builtin} {ts : Array TypeId} {ty : TypeId} {cs : Array Bool} {xs : List AV} {vs : Array Value} {v : AV} (hx : VRL K xs vs.toList) (h : abuiltin E H b ts ty xs = some v) :
    ∃ cv, (builtin b ts ty cs vs).run E.P w = .ok (.value cv) w ∧ VR K v cv := by
  have wrap : ∀ {s : Sem Value} {u : AV}, QOK E K w s u → u = v → ((builtin b ts ty cs vs).run E.P w = (do pure (Next.value (← s)) : Sem Next).run E.P w) → ∃ cv, (builtin b ts ty cs vs).run E.P w = .ok (.value cv) w ∧ VR K v cv := by
    rintro s u ⟨cv, h1, h2⟩ rfl hr
    exact ⟨cv, by rw [hr]; simp [h1], h2⟩
  unfold abuiltin at h
  split at h
  · -- len
    rename_i x
    simp only [VRL] at hx
    obtain ⟨u, us, e1, hu, e3⟩ := hx
    subst e3
    have hvs : vs = #[u] := by apply Array.ext'; simpa using e1
    subst hvs
    split at h
    · rename_i t ht
      refine wrap (s := Builtin.len_ ts ty #[u]) ?_ rfl rfl
      have hsame : (Builtin.len_ ts ty #[u]) = (Builtin.len_ #[t] ty #[u]) := by
        simp only [Builtin.len_, ht]
        simp
      rw [hsame]
      exact alen_sound hH hu h
    · cases h
  · rename_i k p k' q
    simp only [VRL, VR] at hx
    obtain ⟨u, us, e1, rfl, u2, us2, e2, rfl, e3⟩ := hx
    subst e3 e2
    have hvs : vs = #[.int k p, .int k' q] := by apply Array.ext'; simpa using e1
    subst hvs
    cases h
    exact wrap (u := .int k (if q > p then q else p)) (s := Builtin.max_ ts ty #[.int k p, .int k' q]) ⟨.int k (if q > p then q else p), by simp [Builtin.max_, Builtin.max2], rfl⟩ rfl rfl
  · rename_i k p k' q
    simp only [VRL, VR] at hx
    obtain ⟨u, us, e1, rfl, u2, us2, e2, rfl, e3⟩ := hx
    subst e3 e2
    have hvs : vs = #[.int k p, .int k' q] := by apply Array.ext'; simpa using e1
    subst hvs
    cases h
    exact wrap (u := .int k (if q < p then q else p)) (s := Builtin.min_ ts ty #[.int k p, .int k' q]) ⟨.int k (if q < p then q else p), by simp [Builtin.min_, Builtin.min2], rfl⟩ rfl rfl
  · split at h
    · rename_i us hus
      have := toVL_sound _ _ _ hus hx
      have hvs : vs = us.toArray := by apply Array.ext'; simpa using this
      subst hvs
      exact wrap (apure_sound h) rfl rfl
    · cases h
  · split at h
    · rename_i us hus
      have := toVL_sound _ _ _ hus hx
      have hvs : vs = us.toArray := by apply Array.ext'; simpa using this
      subst hvs
      exact wrap (apure_sound h) rfl rfl
    · cases h
  · cases h

set_option maxHeartbeats 4000000 in
/-- One operation that leaves the memory alone. -/
theorem aopQ_sound (hH : HR E K H w) (hF : FR K N fr a.tmps) {o : Oper} {r : AV} (h : aopQ E fr H o.op o.type = some r) :
    (∀ c, o.op ≠ .defer c) ∧ ∃ cv, (execOp a.eval o).run E.P w = .ok (.value cv) w ∧ VR K r cv := by
  obtain ⟨dst, op, ty, pos, after, guard⟩ := o
  simp only at h
  have qok : ∀ {s : Sem Value} {v : AV}, QOK E K w s v → v = r → ((execOp a.eval ⟨dst, op, ty, pos, after, guard⟩).run E.P w = (do pure (Next.value (← s)) : Sem Next).run E.P w) →
      ∃ cv, (execOp a.eval ⟨dst, op, ty, pos, after, guard⟩).run E.P w = .ok (.value cv) w ∧ VR K r cv := by
    rintro s v ⟨cv, h1, h2⟩ rfl hr
    exact ⟨cv, by rw [hr]; simp [h1], h2⟩
  unfold aopQ at h
  split at h
  · rename_i x
    exact ⟨fun c => by simp, qok (s := pure (a.eval x)) ⟨_, rfl, ev_sound hH hF h⟩ rfl rfl⟩
  · rename_i x
    exact ⟨fun c => by simp, qok (s := pure (a.eval x)) ⟨_, rfl, ev_sound hH hF h⟩ rfl rfl⟩
  · rename_i c x y
    split at h
    · rename_i t u v h1 h2 h3
      cases h
      have e1 := ev_sound hH hF h1
      simp only [VR] at e1
      refine ⟨fun c => by simp, qok (s := pure (if t then a.eval x else a.eval y)) (v := if t then u else v) ⟨_, rfl, ?_⟩ rfl ?_⟩
      · cases t
        · exact ev_sound hH hF h3
        · exact ev_sound hH hF h2
      · simp [execOp, e1, asBool]
    · cases h
  · rename_i t ps
    split at h
    · rename_i l h1
      obtain ⟨p1, p2⟩ := evp_sound (K := K) hH hF h1
      refine ⟨fun c => by simp, qok (abuild_sound (ps := ps.map fun (i, x) => (i, a.eval x)) hH (by rw [p1]; simp [Function.comp_def]) (by simpa [Function.comp_def] using p2) h) rfl rfl⟩
    · cases h
  · split at h
    · rename_i p h1
      exact ⟨fun c => by simp, qok (aload_sound hH (ev_sound hH hF h1) h) rfl rfl⟩
    · cases h
  · -- nilCheck
    rename_i x
    split at h
    · rename_i b ver off h1
      split at h
      · rename_i hl
        cases h
        have e1 := ev_sound hH hF h1
        obtain ⟨i, arr, e', cs'', hb', hi, hver, _⟩ := live_spec hH hl
        have e2 := e1.ptr_eq hi hver
        exact ⟨fun c => by simp, qok (s := pure (a.eval x)) ⟨_, rfl, e1⟩ rfl (by simp [execOp, e2])⟩
      · cases h
    · rename_i cs h1
      cases h
      have e1 := ev_sound hH hF h1
      have e2 := e1
      simp only [VR] at e2
      obtain ⟨b, o, e2, _⟩ := e2
      exact ⟨fun c => by simp, qok (s := pure (a.eval x)) ⟨_, rfl, e1⟩ rfl (by simp [execOp, e2])⟩
    · rename_i t v h1
      cases h
      have e1 := ev_sound hH hF h1
      have e2 := e1
      simp only [VR] at e2
      obtain ⟨u, e2, _⟩ := e2
      exact ⟨fun c => by simp, qok (s := pure (a.eval x)) ⟨_, rfl, e1⟩ rfl (by simp [execOp, e2])⟩
    · rename_i f p q h1
      cases h
      have e1 := ev_sound hH hF h1
      have e2 := e1
      simp only [VR] at e2
      obtain ⟨_, fs, cs, e2, _⟩ := e2
      exact ⟨fun c => by simp, qok (s := pure (a.eval x)) ⟨_, rfl, e1⟩ rfl (by simp [execOp, e2])⟩
    · rename_i b h1
      split at h
      · rename_i hb
        cases h
        have e1 := ev_sound hH hF h1
        obtain ⟨i, hi, ho⟩ := hH.info hb
        have e2 := e1
        simp only [VR] at e2
        obtain ⟨_, j, hj, e2⟩ := e2
        have : j = i := Option.some.inj (hj.symm.trans hi)
        subst this
        have e3 := e2 ho.1
        exact ⟨fun c => by simp, qok (s := pure (a.eval x)) ⟨_, rfl, e1⟩ rfl (by simp [execOp, e3])⟩
      · cases h
    · cases h
  · rename_i bop t x y yt
    split at h
    · rename_i u v h1 h2
      split at h
      · rename_i rr h3
        cases h
        exact ⟨fun c => by simp, qok (abin_sound (ev_sound hH hF h1) (ev_sound hH hF h2) h3) rfl rfl⟩
      · exact ⟨fun c => by simp, qok (anil_sound (xo := x) (yo := y) hH (ev_sound hH hF h1) (ev_sound hH hF h2) h) rfl rfl⟩
    · cases h
  · rename_i uop t x
    split at h
    · rename_i u h1
      split at h
      · rename_i v h2
        have e1 := toV_sound _ _ _ h2 (ev_sound hH hF h1)
        exact ⟨fun c => by simp, qok (s := Op.unary uop (a.eval x)) (by rw [e1]; exact apure_sound h) rfl rfl⟩
      · cases h
    · cases h
  · split at h
    · rename_i u d h1 h2
      exact ⟨fun c => by simp, qok (aconv_sound ⟨d, Env.un_ok h2⟩ (ev_sound hH hF h1) h) rfl rfl⟩
    · cases h
  · rename_i t x
    split at h
    · cases h
    · rename_i u d hni h1 h2
      cases h
      refine ⟨fun c => by simp, qok (s := Instr.makeInterface t (a.eval x)) (v := .iface t u) ⟨.iface t (a.eval x), ?_, _, rfl, ev_sound hH hF h1⟩ rfl rfl⟩
      simp only [Instr.makeInterface, Sem.run_bind, run_underlying (Env.un_ok h2), Result.andThen_ok]
      cases d <;> first | exact absurd rfl (hni _) | rfl
    · cases h
  · rename_i f p q
    split at h
    · rename_i u v h1 h2
      cases h
      refine ⟨fun c => by simp, qok (s := Instr.makeFunc (.func f) (p.map a.eval) (q.map a.eval)) (v := .fn (.func f) u v) ⟨.func (.func f) (p.map a.eval) (q.map a.eval), rfl, fun l => (by simp), _, _, rfl, ?_, ?_⟩ rfl rfl⟩
      · simpa using evs_sound hH hF h1
      · simpa using evs_sound hH hF h2
    · cases h
  · split at h
    · rename_i u l q h1 h2 h3
      exact ⟨fun c => by simp, qok (aslice_sound hH (ev_sound hH hF h1) (evo_sound hH hF h2) (evo_sound hH hF h3) h) rfl rfl⟩
    · cases h
  · split at h
    · rename_i u h1
      exact ⟨fun c => by simp, qok (afieldAddr_sound hH (ev_sound hH hF h1) h) rfl rfl⟩
    · cases h
  · split at h
    · rename_i u h1
      exact ⟨fun c => by simp, qok (afield_sound (ev_sound hH hF h1) h) rfl rfl⟩
    · cases h
  · split at h
    · rename_i u v h1 h2
      exact ⟨fun c => by simp, qok (aindexAddr_sound hH (ev_sound hH hF h1) (ev_sound hH hF h2) h) rfl rfl⟩
    · cases h
  · split at h
    · rename_i u v h1 h2
      exact ⟨fun c => by simp, qok (aindex_sound (ev_sound hH hF h1) (ev_sound hH hF h2) h) rfl rfl⟩
    · cases h
  · split at h
    · rename_i u h1
      exact ⟨fun c => by simp, qok (aassert_sound (ev_sound hH hF h1) h) rfl rfl⟩
    · cases h
  · rename_i x i
    split at h
    · rename_i vs h1
      have e1 := ev_sound hH hF h1
      simp only [VR] at e1
      obtain ⟨us, e2, e3⟩ := e1
      obtain ⟨y, y1, y2⟩ := e3.get i r h
      refine ⟨fun c => by simp, qok (s := Instr.extract (a.eval x) i) ⟨y, ?_, y2⟩ rfl rfl⟩
      have : us[i]? = some y := by simpa using y1
      simp [Instr.extract, e2, this]
    · cases h
  · rename_i b args ts
    split at h
    · rename_i xs h1
      have e1 := evs_sound (K := K) hH hF h1
      obtain ⟨cv, x2, x4⟩ := abuiltin_sound (cs := args.map fun | .const _ => true | _ => false) (vs := args.map a.eval) hH (by simpa using e1) h
      exact ⟨fun c => by simp, cv, (by simp [execOp, resolve, invoke]; exact x2), x4⟩
    · cases h
  · cases h

set_option maxHeartbeats 4000000 in
/-- One operation that writes or makes memory. -/
theorem aopW_sound (hH : HR E K H w) (hF : FR K N fr a.tmps) {o : Oper} {r : AV × Heap} (h : aopW E fr H o.op o.type = some r) :
    (∀ c, o.op ≠ .defer c) ∧ ∃ K' cv w' nx, Ext K K' ∧ (execOp a.eval o).run E.P w = .ok nx w' ∧ (nx = .value cv ∨ (nx = .skip ∧ cv = undef)) ∧ HR E K' r.2 w' ∧ VR K' r.1 cv := by
  obtain ⟨dst, op, ty, pos, after, guard⟩ := o
  simp only at h
  have sok : ∀ {s : Sem Value} {v : AV} {H' : Heap}, SOK E K w s v H' → (v, H') = r → ((execOp a.eval ⟨dst, op, ty, pos, after, guard⟩).run E.P w = (do pure (Next.value (← s)) : Sem Next).run E.P w) →
      ∃ K' cv w' nx, Ext K K' ∧ (execOp a.eval ⟨dst, op, ty, pos, after, guard⟩).run E.P w = .ok nx w' ∧ (nx = .value cv ∨ (nx = .skip ∧ cv = undef)) ∧ HR E K' r.2 w' ∧ VR K' r.1 cv := by
    rintro s v H' ⟨K', cv, w', h1, h2, h3, h4⟩ rfl hr
    exact ⟨K', cv, w', .value cv, h1, by rw [hr]; simp [h2], .inl rfl, h3, h4⟩
  unfold aopW at h
  split at h
  · exact ⟨fun c => by simp, sok (aalloc_sound hH h) rfl rfl⟩
  · split at h
    · rename_i v h1
      exact ⟨fun c => by simp, sok (abox_sound hH (ev_sound hH hF h1) h) rfl rfl⟩
    · cases h
  · rename_i t n ps
    split at h
    · rename_i l h1
      obtain ⟨p1, p2⟩ := evp_sound (K := K) hH hF h1
      refine ⟨fun c => by simp, sok (abuildSlice_sound (ps := ps.map fun (i, x) => (i, a.eval x)) hH (by rw [p1]; simp [Function.comp_def]) (by simpa [Function.comp_def] using p2) h) rfl rfl⟩
    · cases h
  · split at h
    · rename_i p v h1 h2
      obtain ⟨H', h3, h4⟩ := Option.map_eq_some_iff.1 h
      subst h4
      obtain ⟨K', w', x1, x2, x3⟩ := astore_sound hH (ev_sound hH hF h1) (ev_sound hH hF h2) h3
      exact ⟨fun c => by simp, K', undef, w', .skip, x1, by simp [execOp, x2], .inr ⟨rfl, rfl⟩, x3, #[], rfl, rfl⟩
    · cases h
  · split at h
    · rename_i u v h1 h2
      exact ⟨fun c => by simp, sok (amakeSlice_sound hH (ev_sound hH hF h1) (ev_sound hH hF h2) h) rfl rfl⟩
    · cases h
  · rename_i args ts
    split at h
    · rename_i s x h1
      split at h
      · rename_i t u ht hu
        have e1 := evs_sound (K := K) hH hF h1
        simp only [VRL] at e1
        obtain ⟨c1, r1, q1, v1, c2, r2, q2, v2, q3⟩ := e1
        subst q3 q2
        have hvs : args.map a.eval = #[c1, c2] := by apply Array.ext'; simpa using q1
        refine ⟨fun c => by simp, sok (s := Builtin.append_ ts ty #[c1, c2]) (v := r.1) (H' := r.2) ?_ rfl ?_⟩
        · have hsame : (Builtin.append_ ts ty #[c1, c2]) = (Builtin.append_ #[t, u] ty #[c1, c2]) := by
            simp only [Builtin.append_, ht, hu]
            simp
          rw [hsame]
          exact aappend_sound hH v1 v2 h
        · simp [execOp, resolve, invoke, hvs, builtin]
      · cases h
    · cases h
  · cases h

/-- ONE OPERATION. -/
theorem aop_sound (hH : HR E K H w) (hF : FR K N fr a.tmps) {o : Oper} {r : AV × Heap} (h : aop E fr H o.op o.type = some r) :
    (∀ c, o.op ≠ .defer c) ∧ ∃ K' cv w' nx, Ext K K' ∧ (execOp a.eval o).run E.P w = .ok nx w' ∧ (nx = .value cv ∨ (nx = .skip ∧ cv = undef)) ∧ HR E K' r.2 w' ∧ VR K' r.1 cv := by
  unfold aop at h
  split at h
  · rename_i v hv
    cases h
    obtain ⟨h1, cv, h2, h3⟩ := aopQ_sound hH hF hv
    exact ⟨h1, K, cv, w, _, Ext.refl K, h2, .inl rfl, hH, h3⟩
  · exact aopW_sound hH hF h

end

end Go.Proofs.Ytcdnonggajoghaa
