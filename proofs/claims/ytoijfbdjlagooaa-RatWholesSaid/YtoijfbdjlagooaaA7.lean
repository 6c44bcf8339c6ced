/- The program logic and the contracts that a law leans on, part 7. -/
import Derived.Test.YtoijfbdjlagooaaA6

/- Contracts: the simplest number of an interval. -/
namespace Go.Proofs.Ytoijfbdjlagooaa
open Go Go.RowKit
set_option linter.unusedVariables false
set_option linter.unusedSimpArgs false
set_option maxRecDepth 100000

theorem cmpQ_zero {a b : Rat} : cmpQ a b = 0 ↔ a = b := by
  unfold cmpQ
  by_cases h : a < b
  · rw [if_pos h]; exact ⟨fun e => (by cases e), fun e => absurd h (by rw [e]; exact Rat.lt_irrefl)⟩
  · rw [if_neg h]
    by_cases h2 : a = b
    · rw [if_pos h2]; exact ⟨fun _ => h2, fun _ => rfl⟩
    · rw [if_neg h2]; exact ⟨fun e => (by cases e), fun e => absurd e h2⟩
theorem cmpQ_one {a b : Rat} : cmpQ a b = 1 ↔ b < a := by
  unfold cmpQ
  by_cases h : a < b
  · rw [if_pos h]; exact ⟨fun e => (by cases e), fun e => by grind⟩
  · rw [if_neg h]
    by_cases h2 : a = b
    · rw [if_pos h2]; exact ⟨fun e => (by cases e), fun e => by grind⟩
    · rw [if_neg h2]; exact ⟨fun _ => by grind, fun _ => rfl⟩
theorem cmpQ_neg {a b : Rat} : cmpQ a b = -1 ↔ a < b := by
  unfold cmpQ
  by_cases h : a < b
  · rw [if_pos h]; exact ⟨fun _ => h, fun _ => rfl⟩
  · rw [if_neg h]
    split
    · exact ⟨fun e => (by cases e), fun e => absurd e h⟩
    · exact ⟨fun e => (by cases e), fun e => absurd e h⟩
theorem cmpQ_cases (a b : Rat) : cmpQ a b = -1 ∨ cmpQ a b = 0 ∨ cmpQ a b = 1 := by
  unfold cmpQ
  split
  · exact .inl rfl
  · split
    · exact .inr (.inl rfl)
    · exact .inr (.inr rfl)
theorem one_mkQ : mkQ (decide ((1 : Int) < 0) != decide ((1 : Int) < 0)) (1 : Int).natAbs (1 : Int).natAbs = 1 := by
  have := mkQ_self (1 : Rat)
  exact this
theorem zero_mkQ (b : Bool) : mkQ b (0 : Int).natAbs (1 : Int).natAbs = 0 := mkQ_zero b 1
theorem rl_pos (q : Rat) : 1 ≤ rl q := by
  have h1 := rl_den q
  have h2 : (dg q.den).length ≠ 0 := fun e => q.den_nz (dg_eq_nil.1 (List.length_eq_zero_iff.1 e))
  omega
theorem rl_le {q r : Rat} (h1 : q.num.natAbs ≤ r.num.natAbs) (h2 : q.den ≤ r.den) : rl q ≤ rl r := by
  have := dg_length_mono h1
  have := dg_length_mono h2
  unfold rl
  omega
theorem rl_floor {q : Rat} (h : 0 < q) : rl (q.floor : Rat) ≤ rl q := by
  have h0 := floor_nonneg h
  have h1 := num_ge h0 (floor_le' q)
  refine rl_le ?_ ?_
  · rw [Rat.num_intCast]; omega
  · rw [Rat.den_intCast]; exact Nat.pos_of_ne_zero q.den_nz
theorem rl_one : rl 1 = 1 := by
  have h : rl 1 = max (dg 1).length (dg 1).length := rfl
  rw [h, dg_len_one]
  rfl
theorem rl_zero : rl 0 = 1 := by
  have h : rl 0 = max (dg 0).length (dg 1).length := rfl
  rw [h, dg_len_one, dg_zero]
  rfl
theorem ratio_one : VCall EE 49 [.int .i64 1, .int .i64 1] [] fun v H => Fz H 0 [] v (ratV 1) := by
  have h := ratio_c (a := 1) (b := 1) (by decide) (by decide) (by decide) (by decide) (by decide)
  rwa [one_mkQ] at h
theorem ratio_zero : VCall EE 49 [.int .i64 0, .int .i64 1] [] fun v H => Fz H 0 [] v (ratV 0) := by
  have h := ratio_c (a := 0) (b := 1) (by decide) (by decide) (by decide) (by decide) (by decide)
  rwa [zero_mkQ] at h
theorem swhole_one : VCall EE 89 [.int .i64 1] [] fun v H => Fz H 0 [] v (ratV 1) := by
  have h := swhole_c (n := 1) (by decide) (by decide)
  rwa [Rat.intCast_one] at h
theorem swhole_zero : VCall EE 89 [.int .i64 0] [] fun v H => Fz H 0 [] v (ratV 0) := by
  have h := swhole_c (n := 0) (by decide) (by decide)
  rwa [Rat.intCast_zero] at h

/-- What the walk of a simplest number leans on. -/
structure SimpW (n : Nat) (lo hi : Rat) (m : Nat) : Prop where
  pos : 0 < lo
  le : lo ≤ hi
  n : lo.den + hi.den ≤ n
  lo : rl lo ≤ m
  hi : rl hi ≤ m
theorem SimpW.fl {n : Nat} {lo hi : Rat} {m : Nat} (h : SimpW n lo hi m) : rl (lo.floor : Rat) ≤ m := Nat.le_trans (rl_floor h.pos) h.lo
theorem SimpW.next {n : Nat} {lo hi : Rat} {m : Nat} (h : SimpW (n + 1) lo hi m) (h1 : (lo.floor : Rat) ≠ lo) (h2 : ¬ (lo.floor : Rat) + 1 ≤ hi) :
    SimpW n (1 / (hi + -(lo.floor : Rat))) (1 / (lo + -(lo.floor : Rat))) m ∧ hi + -(lo.floor : Rat) ≠ 0 ∧ lo + -(lo.floor : Rat) ≠ 0 ∧
      rl (simpQ n (1 / (hi + -(lo.floor : Rat))) (1 / (lo + -(lo.floor : Rat)))) ≤ m ∧ simpQ n (1 / (hi + -(lo.floor : Rat))) (1 / (lo + -(lo.floor : Rat))) ≠ 0 := by
  have hf0 := floor_nonneg h.pos
  have hfl := floor_le' lo
  have hfu := lt_floor' lo
  have hle := h.le
  generalize lo.floor = f at *
  have hflt : (f : Rat) < lo := by grind
  have hhu : hi < (f : Rat) + 1 := by grind
  have hhl : (f : Rat) < hi := by grind
  obtain ⟨a1, a2, a3, a4, a5⟩ := rest_parts hflt hfu
  obtain ⟨b1, b2, b3, b4, b5⟩ := rest_parts hhl hhu
  have hlo' : 0 < 1 / (hi + -(f : Rat)) := by grind
  have hhi' : 0 < 1 / (lo + -(f : Rat)) := by grind
  have hle' : 1 / (hi + -(f : Rat)) ≤ 1 / (lo + -(f : Rat)) := by
    rw [one_div, one_div]
    exact inv_anti a1 (by grind)
  have hrl : ∀ {x y : Rat}, 0 < x → x.num = y.den → x.den < y.den → rl x ≤ rl y := fun {x y} hx h1 h2 => by
    have h3 := dg_length_mono (show x.num.natAbs ≤ y.den by omega)
    have h4 := dg_length_mono (Nat.le_of_lt h2)
    have h5 := rl_den y
    unfold rl at *
    omega
  have hn := h.n
  have l1 := hrl hlo' b5 b4
  have l2 := hrl hhi' a5 a4
  have hl := h.lo
  have hh := h.hi
  have hS : SimpW n (1 / (hi + -(f : Rat))) (1 / (lo + -(f : Rat))) m := ⟨hlo', hle', by omega, by omega, by omega⟩
  have ok := simpQ_ok n hlo' hle' (by omega)
  have hx : 0 < simpQ n (1 / (hi + -(f : Rat))) (1 / (lo + -(f : Rat))) := by have := ok.ge; grind
  refine ⟨hS, Rat.ne_of_gt b1, Rat.ne_of_gt a1, ?_, Rat.ne_of_gt hx⟩
  have d1 := ok.den _ hle' Rat.le_refl
  have d2 := ok.num _ hle' Rat.le_refl
  have p1 := num_pos hx
  have := rl_le (q := simpQ n (1 / (hi + -(f : Rat))) (1 / (lo + -(f : Rat)))) (r := 1 / (lo + -(f : Rat))) (by omega) d1
  omega

set_option maxHeartbeats 1000000 in
theorem simple_c : ∀ (n : Nat) {lo hi : Rat} {m : Nat}, SimpW n lo hi m → m < 100000 → VCall EE 52 [.agg (ratC lo ++ ratC hi)] [] fun v H => Fz H 0 [] v (ratV (simpQ n lo hi))
  | 0, lo, hi, m, h, hm => by
    have := h.n
    have := Nat.pos_of_ne_zero lo.den_nz
    omega
  | n + 1, lo, hi, m, h, hm => by
    refine VCall.of_body true Try.func52 rfl (by decide) rfl ?_
    have hl := h.lo
    have hh := h.hi
    have hf := h.fl
    have ha1 := rl_add (lo.floor : Rat) 1
    have r1 := rl_one
    rw [simpQ]
    repeat' ((conv => whnf); first | refine ngo ?_ | refine VB.tt ?_ | refine VB.ff ?_ | refine VNew.keep ?_ | refine dgo ?_ | refine sgo ?_ | refine ddo ?_ | refine And.intro (Nat.le_of_ble_eq_true rfl) ?_ | (with_reducible apply VB.id; rw [bneI]) | (with_reducible apply VB.id; rw [beqI]) | (with_reducible apply VB.dt; focus omega) | (with_reducible apply VB.df; focus omega) | (with_reducible apply VB.et; focus omega) | (with_reducible apply VB.ef; focus omega) | (with_reducible apply VB.nt; focus omega) | (with_reducible apply VB.nf; focus omega) | fail)
    conv => whnf
    refine VCall.iq (down_c lo (by omega)) ?_
    repeat' ((conv => whnf); first | refine ngo ?_ | refine VB.tt ?_ | refine VB.ff ?_ | refine VNew.keep ?_ | refine dgo ?_ | refine sgo ?_ | refine ddo ?_ | refine And.intro (Nat.le_of_ble_eq_true rfl) ?_ | (with_reducible apply VB.id; rw [bneI]) | (with_reducible apply VB.id; rw [beqI]) | (with_reducible apply VB.dt; focus omega) | (with_reducible apply VB.df; focus omega) | (with_reducible apply VB.et; focus omega) | (with_reducible apply VB.ef; focus omega) | (with_reducible apply VB.nt; focus omega) | (with_reducible apply VB.nf; focus omega) | fail)
    conv => whnf
    refine VCall.iq (ratio_one) ?_
    repeat' ((conv => whnf); first | refine ngo ?_ | refine VB.tt ?_ | refine VB.ff ?_ | refine VNew.keep ?_ | refine dgo ?_ | refine sgo ?_ | refine ddo ?_ | refine And.intro (Nat.le_of_ble_eq_true rfl) ?_ | (with_reducible apply VB.id; rw [bneI]) | (with_reducible apply VB.id; rw [beqI]) | (with_reducible apply VB.dt; focus omega) | (with_reducible apply VB.df; focus omega) | (with_reducible apply VB.et; focus omega) | (with_reducible apply VB.ef; focus omega) | (with_reducible apply VB.nt; focus omega) | (with_reducible apply VB.nf; focus omega) | fail)
    conv => whnf
    refine VCall.iq (plus_c (lo.floor : Rat) 1 (by omega)) ?_
    repeat' ((conv => whnf); first | refine ngo ?_ | refine VB.tt ?_ | refine VB.ff ?_ | refine VNew.keep ?_ | refine dgo ?_ | refine sgo ?_ | refine ddo ?_ | refine And.intro (Nat.le_of_ble_eq_true rfl) ?_ | (with_reducible apply VB.id; rw [bneI]) | (with_reducible apply VB.id; rw [beqI]) | (with_reducible apply VB.dt; focus omega) | (with_reducible apply VB.df; focus omega) | (with_reducible apply VB.et; focus omega) | (with_reducible apply VB.ef; focus omega) | (with_reducible apply VB.nt; focus omega) | (with_reducible apply VB.nf; focus omega) | fail)
    conv => whnf
    refine VCall.sq (compare_c (lo.floor : Rat) lo (by omega)) ?_
    repeat' ((conv => whnf); first | refine ngo ?_ | refine VB.tt ?_ | refine VB.ff ?_ | refine VNew.keep ?_ | refine dgo ?_ | refine sgo ?_ | refine ddo ?_ | refine And.intro (Nat.le_of_ble_eq_true rfl) ?_ | (with_reducible apply VB.id; rw [bneI]) | (with_reducible apply VB.id; rw [beqI]) | (with_reducible apply VB.dt; focus omega) | (with_reducible apply VB.df; focus omega) | (with_reducible apply VB.et; focus omega) | (with_reducible apply VB.ef; focus omega) | (with_reducible apply VB.nt; focus omega) | (with_reducible apply VB.nf; focus omega) | fail)
    conv => whnf
    refine VB.eq (fun h1 => ?_) (fun h1 => ?_)
    · repeat' ((conv => whnf); first | refine ngo ?_ | refine VB.tt ?_ | refine VB.ff ?_ | refine VNew.keep ?_ | refine dgo ?_ | refine sgo ?_ | refine ddo ?_ | refine And.intro (Nat.le_of_ble_eq_true rfl) ?_ | (with_reducible apply VB.id; rw [bneI]) | (with_reducible apply VB.id; rw [beqI]) | (with_reducible apply VB.dt; focus omega) | (with_reducible apply VB.df; focus omega) | (with_reducible apply VB.et; focus omega) | (with_reducible apply VB.ef; focus omega) | (with_reducible apply VB.nt; focus omega) | (with_reducible apply VB.nf; focus omega) | fail)
      conv => whnf
      rw [if_pos (cmpQ_zero.1 h1)]
      exact .same rfl (low_ratV 0 _)
    · have h1 : (lo.floor : Rat) ≠ lo := fun e => h1 (cmpQ_zero.2 e)
      rw [if_neg h1]
      repeat' ((conv => whnf); first | refine ngo ?_ | refine VB.tt ?_ | refine VB.ff ?_ | refine VNew.keep ?_ | refine dgo ?_ | refine sgo ?_ | refine ddo ?_ | refine And.intro (Nat.le_of_ble_eq_true rfl) ?_ | (with_reducible apply VB.id; rw [bneI]) | (with_reducible apply VB.id; rw [beqI]) | (with_reducible apply VB.dt; focus omega) | (with_reducible apply VB.df; focus omega) | (with_reducible apply VB.et; focus omega) | (with_reducible apply VB.ef; focus omega) | (with_reducible apply VB.nt; focus omega) | (with_reducible apply VB.nf; focus omega) | fail)
      conv => whnf
      refine VCall.sq (compare_c ((lo.floor : Rat) + 1) hi (by omega)) ?_
      repeat' ((conv => whnf); first | refine ngo ?_ | refine VB.tt ?_ | refine VB.ff ?_ | refine VNew.keep ?_ | refine dgo ?_ | refine sgo ?_ | refine ddo ?_ | refine And.intro (Nat.le_of_ble_eq_true rfl) ?_ | (with_reducible apply VB.id; rw [bneI]) | (with_reducible apply VB.id; rw [beqI]) | (with_reducible apply VB.dt; focus omega) | (with_reducible apply VB.df; focus omega) | (with_reducible apply VB.et; focus omega) | (with_reducible apply VB.ef; focus omega) | (with_reducible apply VB.nt; focus omega) | (with_reducible apply VB.nf; focus omega) | fail)
      conv => whnf
      refine VB.ne (fun h2 => ?_) (fun h2 => ?_)
      · have h2 : (lo.floor : Rat) + 1 ≤ hi := Rat.not_lt.1 fun e => h2 (cmpQ_one.2 e)
        repeat' ((conv => whnf); first | refine ngo ?_ | refine VB.tt ?_ | refine VB.ff ?_ | refine VNew.keep ?_ | refine dgo ?_ | refine sgo ?_ | refine ddo ?_ | refine And.intro (Nat.le_of_ble_eq_true rfl) ?_ | (with_reducible apply VB.id; rw [bneI]) | (with_reducible apply VB.id; rw [beqI]) | (with_reducible apply VB.dt; focus omega) | (with_reducible apply VB.df; focus omega) | (with_reducible apply VB.et; focus omega) | (with_reducible apply VB.ef; focus omega) | (with_reducible apply VB.nt; focus omega) | (with_reducible apply VB.nf; focus omega) | fail)
        conv => whnf
        rw [if_pos h2]
        exact .same rfl (low_ratV 0 _)
      · have h2 : ¬ (lo.floor : Rat) + 1 ≤ hi := Rat.not_le.2 (cmpQ_one.1 h2)
        obtain ⟨hS, n1, n2, hx, hx0⟩ := h.next h1 h2
        have ih := simple_c n hS hm
        rw [if_neg h2]
        have e1 := rl_neg (lo.floor : Rat)
        have e2 := rl_add hi (-(lo.floor : Rat))
        have e3 := rl_add lo (-(lo.floor : Rat))
        have e4 := rl_over 1 _ hx0
        repeat' ((conv => whnf); first | refine ngo ?_ | refine VB.tt ?_ | refine VB.ff ?_ | refine VNew.keep ?_ | refine dgo ?_ | refine sgo ?_ | refine ddo ?_ | refine And.intro (Nat.le_of_ble_eq_true rfl) ?_ | (with_reducible apply VB.id; rw [bneI]) | (with_reducible apply VB.id; rw [beqI]) | (with_reducible apply VB.dt; focus omega) | (with_reducible apply VB.df; focus omega) | (with_reducible apply VB.et; focus omega) | (with_reducible apply VB.ef; focus omega) | (with_reducible apply VB.nt; focus omega) | (with_reducible apply VB.nf; focus omega) | fail)
        conv => whnf
        refine VCall.iq (minus_c (lo.floor : Rat) (by omega)) ?_
        repeat' ((conv => whnf); first | refine ngo ?_ | refine VB.tt ?_ | refine VB.ff ?_ | refine VNew.keep ?_ | refine dgo ?_ | refine sgo ?_ | refine ddo ?_ | refine And.intro (Nat.le_of_ble_eq_true rfl) ?_ | (with_reducible apply VB.id; rw [bneI]) | (with_reducible apply VB.id; rw [beqI]) | (with_reducible apply VB.dt; focus omega) | (with_reducible apply VB.df; focus omega) | (with_reducible apply VB.et; focus omega) | (with_reducible apply VB.ef; focus omega) | (with_reducible apply VB.nt; focus omega) | (with_reducible apply VB.nf; focus omega) | fail)
        conv => whnf
        refine VIso.iq (plus_c hi (-(lo.floor : Rat)) (by omega)) ?_
        repeat' ((conv => whnf); first | refine ngo ?_ | refine VB.tt ?_ | refine VB.ff ?_ | refine VNew.keep ?_ | refine dgo ?_ | refine sgo ?_ | refine ddo ?_ | refine And.intro (Nat.le_of_ble_eq_true rfl) ?_ | (with_reducible apply VB.id; rw [bneI]) | (with_reducible apply VB.id; rw [beqI]) | (with_reducible apply VB.dt; focus omega) | (with_reducible apply VB.df; focus omega) | (with_reducible apply VB.et; focus omega) | (with_reducible apply VB.ef; focus omega) | (with_reducible apply VB.nt; focus omega) | (with_reducible apply VB.nf; focus omega) | fail)
        conv => whnf
        refine VIso.iq (overq_c 1 _ n1 (by omega)) ?_
        repeat' ((conv => whnf); first | refine ngo ?_ | refine VB.tt ?_ | refine VB.ff ?_ | refine VNew.keep ?_ | refine dgo ?_ | refine sgo ?_ | refine ddo ?_ | refine And.intro (Nat.le_of_ble_eq_true rfl) ?_ | (with_reducible apply VB.id; rw [bneI]) | (with_reducible apply VB.id; rw [beqI]) | (with_reducible apply VB.dt; focus omega) | (with_reducible apply VB.df; focus omega) | (with_reducible apply VB.et; focus omega) | (with_reducible apply VB.ef; focus omega) | (with_reducible apply VB.nt; focus omega) | (with_reducible apply VB.nf; focus omega) | fail)
        conv => whnf
        refine VIso.iq (plus_c lo (-(lo.floor : Rat)) (by omega)) ?_
        repeat' ((conv => whnf); first | refine ngo ?_ | refine VB.tt ?_ | refine VB.ff ?_ | refine VNew.keep ?_ | refine dgo ?_ | refine sgo ?_ | refine ddo ?_ | refine And.intro (Nat.le_of_ble_eq_true rfl) ?_ | (with_reducible apply VB.id; rw [bneI]) | (with_reducible apply VB.id; rw [beqI]) | (with_reducible apply VB.dt; focus omega) | (with_reducible apply VB.df; focus omega) | (with_reducible apply VB.et; focus omega) | (with_reducible apply VB.ef; focus omega) | (with_reducible apply VB.nt; focus omega) | (with_reducible apply VB.nf; focus omega) | fail)
        conv => whnf
        refine VIso.iq (overq_c 1 _ n2 (by omega)) ?_
        repeat' ((conv => whnf); first | refine ngo ?_ | refine VB.tt ?_ | refine VB.ff ?_ | refine VNew.keep ?_ | refine dgo ?_ | refine sgo ?_ | refine ddo ?_ | refine And.intro (Nat.le_of_ble_eq_true rfl) ?_ | (with_reducible apply VB.id; rw [bneI]) | (with_reducible apply VB.id; rw [beqI]) | (with_reducible apply VB.dt; focus omega) | (with_reducible apply VB.df; focus omega) | (with_reducible apply VB.et; focus omega) | (with_reducible apply VB.ef; focus omega) | (with_reducible apply VB.nt; focus omega) | (with_reducible apply VB.nf; focus omega) | fail)
        conv => whnf
        refine VIso.iq (ih) ?_
        repeat' ((conv => whnf); first | refine ngo ?_ | refine VB.tt ?_ | refine VB.ff ?_ | refine VNew.keep ?_ | refine dgo ?_ | refine sgo ?_ | refine ddo ?_ | refine And.intro (Nat.le_of_ble_eq_true rfl) ?_ | (with_reducible apply VB.id; rw [bneI]) | (with_reducible apply VB.id; rw [beqI]) | (with_reducible apply VB.dt; focus omega) | (with_reducible apply VB.df; focus omega) | (with_reducible apply VB.et; focus omega) | (with_reducible apply VB.ef; focus omega) | (with_reducible apply VB.nt; focus omega) | (with_reducible apply VB.nf; focus omega) | fail)
        conv => whnf
        refine VIso.iq (overq_c 1 _ hx0 (by omega)) ?_
        repeat' ((conv => whnf); first | refine ngo ?_ | refine VB.tt ?_ | refine VB.ff ?_ | refine VNew.keep ?_ | refine dgo ?_ | refine sgo ?_ | refine ddo ?_ | refine And.intro (Nat.le_of_ble_eq_true rfl) ?_ | (with_reducible apply VB.id; rw [bneI]) | (with_reducible apply VB.id; rw [beqI]) | (with_reducible apply VB.dt; focus omega) | (with_reducible apply VB.df; focus omega) | (with_reducible apply VB.et; focus omega) | (with_reducible apply VB.ef; focus omega) | (with_reducible apply VB.nt; focus omega) | (with_reducible apply VB.nf; focus omega) | fail)
        conv => whnf
        refine VIso.iq (plus_c (lo.floor : Rat) _ (by omega)) ?_
        repeat' ((conv => whnf); first | refine ngo ?_ | refine VB.tt ?_ | refine VB.ff ?_ | refine VNew.keep ?_ | refine dgo ?_ | refine sgo ?_ | refine ddo ?_ | refine And.intro (Nat.le_of_ble_eq_true rfl) ?_ | (with_reducible apply VB.id; rw [bneI]) | (with_reducible apply VB.id; rw [beqI]) | (with_reducible apply VB.dt; focus omega) | (with_reducible apply VB.df; focus omega) | (with_reducible apply VB.et; focus omega) | (with_reducible apply VB.ef; focus omega) | (with_reducible apply VB.nt; focus omega) | (with_reducible apply VB.nf; focus omega) | fail)
        conv => whnf
        exact .same rfl (low_ratV 0 _)

set_option maxHeartbeats 1000000 in
theorem ssimple_pos : ∀ (n : Nat) {lo hi : Rat} {m : Nat}, SimpW n lo hi m → m < 100000 → VCall EE 57 [ratV lo, ratV hi] [] fun v H => Fz H 0 [] v (ratV (simpQ n lo hi))
  | 0, lo, hi, m, h, hm => by
    have := h.n
    have := Nat.pos_of_ne_zero lo.den_nz
    omega
  | n + 1, lo, hi, m, h, hm => by
    have hl := h.lo
    have hh := h.hi
    have hf := h.fl
    have ha1 := rl_add (lo.floor : Rat) 1
    have r1 := rl_one
    have hp := h.pos
    have hhp : 0 < hi := by have := h.le; grind
    have d1 : decide (lo.num < 0) = false := decide_eq_false (by have := num_pos hp; omega)
    have d2 : decide (hi.num < 0) = false := decide_eq_false (by have := num_pos hhp; omega)
    have hz : decide (lo = 0) = false := decide_eq_false (Rat.ne_of_gt hp)
    rw [simpQ]
    have hzc := szero_c lo
    have v1 : ratV lo = .agg [.bool false, natv lo.num.natAbs, natv lo.den] := by rw [ratV, d1]
    have v2 : ratV hi = .agg [.bool false, natv hi.num.natAbs, natv hi.den] := by rw [ratV, d2]
    have c1 := sdown_c lo (by omega)
    have c2 := sorder_c (lo.floor : Rat) lo (by omega)
    have c3 := sorder_c ((lo.floor : Rat) + 1) hi (by omega)
    rw [hz, v1] at hzc
    rw [v1] at c1 c2
    rw [v2] at c3
    rw [v1, v2]
    refine VCall.of_body true Try.func57 rfl (by decide) rfl ?_
    repeat' ((conv => whnf); first | refine ngo ?_ | refine VB.tt ?_ | refine VB.ff ?_ | refine VNew.keep ?_ | refine dgo ?_ | refine sgo ?_ | refine ddo ?_ | refine And.intro (Nat.le_of_ble_eq_true rfl) ?_ | (with_reducible apply VB.id; rw [bneI]) | (with_reducible apply VB.id; rw [beqI]) | (with_reducible apply VB.dt; focus omega) | (with_reducible apply VB.df; focus omega) | (with_reducible apply VB.et; focus omega) | (with_reducible apply VB.ef; focus omega) | (with_reducible apply VB.nt; focus omega) | (with_reducible apply VB.nf; focus omega) | fail)
    conv => whnf
    refine VCall.sq (hzc) ?_
    repeat' ((conv => whnf); first | refine ngo ?_ | refine VB.tt ?_ | refine VB.ff ?_ | refine VNew.keep ?_ | refine dgo ?_ | refine sgo ?_ | refine ddo ?_ | refine And.intro (Nat.le_of_ble_eq_true rfl) ?_ | (with_reducible apply VB.id; rw [bneI]) | (with_reducible apply VB.id; rw [beqI]) | (with_reducible apply VB.dt; focus omega) | (with_reducible apply VB.df; focus omega) | (with_reducible apply VB.et; focus omega) | (with_reducible apply VB.ef; focus omega) | (with_reducible apply VB.nt; focus omega) | (with_reducible apply VB.nf; focus omega) | fail)
    conv => whnf
    refine VCall.iq (c1) ?_
    repeat' ((conv => whnf); first | refine ngo ?_ | refine VB.tt ?_ | refine VB.ff ?_ | refine VNew.keep ?_ | refine dgo ?_ | refine sgo ?_ | refine ddo ?_ | refine And.intro (Nat.le_of_ble_eq_true rfl) ?_ | (with_reducible apply VB.id; rw [bneI]) | (with_reducible apply VB.id; rw [beqI]) | (with_reducible apply VB.dt; focus omega) | (with_reducible apply VB.df; focus omega) | (with_reducible apply VB.et; focus omega) | (with_reducible apply VB.ef; focus omega) | (with_reducible apply VB.nt; focus omega) | (with_reducible apply VB.nf; focus omega) | fail)
    conv => whnf
    refine VCall.sq (c2) ?_
    repeat' ((conv => whnf); first | refine ngo ?_ | refine VB.tt ?_ | refine VB.ff ?_ | refine VNew.keep ?_ | refine dgo ?_ | refine sgo ?_ | refine ddo ?_ | refine And.intro (Nat.le_of_ble_eq_true rfl) ?_ | (with_reducible apply VB.id; rw [bneI]) | (with_reducible apply VB.id; rw [beqI]) | (with_reducible apply VB.dt; focus omega) | (with_reducible apply VB.df; focus omega) | (with_reducible apply VB.et; focus omega) | (with_reducible apply VB.ef; focus omega) | (with_reducible apply VB.nt; focus omega) | (with_reducible apply VB.nf; focus omega) | fail)
    conv => whnf
    refine VB.eq (fun h1 => ?_) (fun h1 => ?_)
    · repeat' ((conv => whnf); first | refine ngo ?_ | refine VB.tt ?_ | refine VB.ff ?_ | refine VNew.keep ?_ | refine dgo ?_ | refine sgo ?_ | refine ddo ?_ | refine And.intro (Nat.le_of_ble_eq_true rfl) ?_ | (with_reducible apply VB.id; rw [bneI]) | (with_reducible apply VB.id; rw [beqI]) | (with_reducible apply VB.dt; focus omega) | (with_reducible apply VB.df; focus omega) | (with_reducible apply VB.et; focus omega) | (with_reducible apply VB.ef; focus omega) | (with_reducible apply VB.nt; focus omega) | (with_reducible apply VB.nf; focus omega) | fail)
      conv => whnf
      rw [if_pos (cmpQ_zero.1 h1)]
      exact .same rfl (low_ratV 0 _)
    · have h1 : (lo.floor : Rat) ≠ lo := fun e => h1 (cmpQ_zero.2 e)
      rw [if_neg h1]
      repeat' ((conv => whnf); first | refine ngo ?_ | refine VB.tt ?_ | refine VB.ff ?_ | refine VNew.keep ?_ | refine dgo ?_ | refine sgo ?_ | refine ddo ?_ | refine And.intro (Nat.le_of_ble_eq_true rfl) ?_ | (with_reducible apply VB.id; rw [bneI]) | (with_reducible apply VB.id; rw [beqI]) | (with_reducible apply VB.dt; focus omega) | (with_reducible apply VB.df; focus omega) | (with_reducible apply VB.et; focus omega) | (with_reducible apply VB.ef; focus omega) | (with_reducible apply VB.nt; focus omega) | (with_reducible apply VB.nf; focus omega) | fail)
      conv => whnf
      refine VIso.iq (swhole_one) ?_
      repeat' ((conv => whnf); first | refine ngo ?_ | refine VB.tt ?_ | refine VB.ff ?_ | refine VNew.keep ?_ | refine dgo ?_ | refine sgo ?_ | refine ddo ?_ | refine And.intro (Nat.le_of_ble_eq_true rfl) ?_ | (with_reducible apply VB.id; rw [bneI]) | (with_reducible apply VB.id; rw [beqI]) | (with_reducible apply VB.dt; focus omega) | (with_reducible apply VB.df; focus omega) | (with_reducible apply VB.et; focus omega) | (with_reducible apply VB.ef; focus omega) | (with_reducible apply VB.nt; focus omega) | (with_reducible apply VB.nf; focus omega) | fail)
      conv => whnf
      refine VIso.iq (splus_c (lo.floor : Rat) 1 (by omega)) ?_
      repeat' ((conv => whnf); first | refine ngo ?_ | refine VB.tt ?_ | refine VB.ff ?_ | refine VNew.keep ?_ | refine dgo ?_ | refine sgo ?_ | refine ddo ?_ | refine And.intro (Nat.le_of_ble_eq_true rfl) ?_ | (with_reducible apply VB.id; rw [bneI]) | (with_reducible apply VB.id; rw [beqI]) | (with_reducible apply VB.dt; focus omega) | (with_reducible apply VB.df; focus omega) | (with_reducible apply VB.et; focus omega) | (with_reducible apply VB.ef; focus omega) | (with_reducible apply VB.nt; focus omega) | (with_reducible apply VB.nf; focus omega) | fail)
      conv => whnf
      refine VCall.sq (c3) ?_
      repeat' ((conv => whnf); first | refine ngo ?_ | refine VB.tt ?_ | refine VB.ff ?_ | refine VNew.keep ?_ | refine dgo ?_ | refine sgo ?_ | refine ddo ?_ | refine And.intro (Nat.le_of_ble_eq_true rfl) ?_ | (with_reducible apply VB.id; rw [bneI]) | (with_reducible apply VB.id; rw [beqI]) | (with_reducible apply VB.dt; focus omega) | (with_reducible apply VB.df; focus omega) | (with_reducible apply VB.et; focus omega) | (with_reducible apply VB.ef; focus omega) | (with_reducible apply VB.nt; focus omega) | (with_reducible apply VB.nf; focus omega) | fail)
      conv => whnf
      refine VB.dec (fun h2 => ?_) (fun h2 => ?_)
      · have h2 : (lo.floor : Rat) + 1 ≤ hi := Rat.not_lt.1 fun e => by have := cmpQ_one.2 e; omega
        repeat' ((conv => whnf); first | refine ngo ?_ | refine VB.tt ?_ | refine VB.ff ?_ | refine VNew.keep ?_ | refine dgo ?_ | refine sgo ?_ | refine ddo ?_ | refine And.intro (Nat.le_of_ble_eq_true rfl) ?_ | (with_reducible apply VB.id; rw [bneI]) | (with_reducible apply VB.id; rw [beqI]) | (with_reducible apply VB.dt; focus omega) | (with_reducible apply VB.df; focus omega) | (with_reducible apply VB.et; focus omega) | (with_reducible apply VB.ef; focus omega) | (with_reducible apply VB.nt; focus omega) | (with_reducible apply VB.nf; focus omega) | fail)
        conv => whnf
        rw [if_pos h2]
        exact .same rfl (low_ratV 0 _)
      · have h2 : ¬ (lo.floor : Rat) + 1 ≤ hi := Rat.not_le.2 (cmpQ_one.1 (by have := cmpQ_cases ((lo.floor : Rat) + 1) hi; omega))
        obtain ⟨hS, n1, n2, hx, hx0⟩ := h.next h1 h2
        have ih := ssimple_pos n hS hm
        rw [if_neg h2]
        have e1 := rl_neg (lo.floor : Rat)
        have e2 := rl_add hi (-(lo.floor : Rat))
        have e3 := rl_add lo (-(lo.floor : Rat))
        have e4 := rl_over 1 _ hx0
        have c4 := splus_c hi (-(lo.floor : Rat)) (by omega)
        have c5 := splus_c lo (-(lo.floor : Rat)) (by omega)
        rw [v2] at c4
        rw [v1] at c5
        repeat' ((conv => whnf); first | refine ngo ?_ | refine VB.tt ?_ | refine VB.ff ?_ | refine VNew.keep ?_ | refine dgo ?_ | refine sgo ?_ | refine ddo ?_ | refine And.intro (Nat.le_of_ble_eq_true rfl) ?_ | (with_reducible apply VB.id; rw [bneI]) | (with_reducible apply VB.id; rw [beqI]) | (with_reducible apply VB.dt; focus omega) | (with_reducible apply VB.df; focus omega) | (with_reducible apply VB.et; focus omega) | (with_reducible apply VB.ef; focus omega) | (with_reducible apply VB.nt; focus omega) | (with_reducible apply VB.nf; focus omega) | fail)
        conv => whnf
        refine VIso.iq (swhole_one) ?_
        repeat' ((conv => whnf); first | refine ngo ?_ | refine VB.tt ?_ | refine VB.ff ?_ | refine VNew.keep ?_ | refine dgo ?_ | refine sgo ?_ | refine ddo ?_ | refine And.intro (Nat.le_of_ble_eq_true rfl) ?_ | (with_reducible apply VB.id; rw [bneI]) | (with_reducible apply VB.id; rw [beqI]) | (with_reducible apply VB.dt; focus omega) | (with_reducible apply VB.df; focus omega) | (with_reducible apply VB.et; focus omega) | (with_reducible apply VB.ef; focus omega) | (with_reducible apply VB.nt; focus omega) | (with_reducible apply VB.nf; focus omega) | fail)
        conv => whnf
        refine VIso.iq (sminus_c (lo.floor : Rat)) ?_
        repeat' ((conv => whnf); first | refine ngo ?_ | refine VB.tt ?_ | refine VB.ff ?_ | refine VNew.keep ?_ | refine dgo ?_ | refine sgo ?_ | refine ddo ?_ | refine And.intro (Nat.le_of_ble_eq_true rfl) ?_ | (with_reducible apply VB.id; rw [bneI]) | (with_reducible apply VB.id; rw [beqI]) | (with_reducible apply VB.dt; focus omega) | (with_reducible apply VB.df; focus omega) | (with_reducible apply VB.et; focus omega) | (with_reducible apply VB.ef; focus omega) | (with_reducible apply VB.nt; focus omega) | (with_reducible apply VB.nf; focus omega) | fail)
        conv => whnf
        refine VIso.iq (c4) ?_
        repeat' ((conv => whnf); first | refine ngo ?_ | refine VB.tt ?_ | refine VB.ff ?_ | refine VNew.keep ?_ | refine dgo ?_ | refine sgo ?_ | refine ddo ?_ | refine And.intro (Nat.le_of_ble_eq_true rfl) ?_ | (with_reducible apply VB.id; rw [bneI]) | (with_reducible apply VB.id; rw [beqI]) | (with_reducible apply VB.dt; focus omega) | (with_reducible apply VB.df; focus omega) | (with_reducible apply VB.et; focus omega) | (with_reducible apply VB.ef; focus omega) | (with_reducible apply VB.nt; focus omega) | (with_reducible apply VB.nf; focus omega) | fail)
        conv => whnf
        refine VIso.iq (sover_c 1 _ n1 (by omega)) ?_
        repeat' ((conv => whnf); first | refine ngo ?_ | refine VB.tt ?_ | refine VB.ff ?_ | refine VNew.keep ?_ | refine dgo ?_ | refine sgo ?_ | refine ddo ?_ | refine And.intro (Nat.le_of_ble_eq_true rfl) ?_ | (with_reducible apply VB.id; rw [bneI]) | (with_reducible apply VB.id; rw [beqI]) | (with_reducible apply VB.dt; focus omega) | (with_reducible apply VB.df; focus omega) | (with_reducible apply VB.et; focus omega) | (with_reducible apply VB.ef; focus omega) | (with_reducible apply VB.nt; focus omega) | (with_reducible apply VB.nf; focus omega) | fail)
        conv => whnf
        refine VIso.iq (swhole_one) ?_
        repeat' ((conv => whnf); first | refine ngo ?_ | refine VB.tt ?_ | refine VB.ff ?_ | refine VNew.keep ?_ | refine dgo ?_ | refine sgo ?_ | refine ddo ?_ | refine And.intro (Nat.le_of_ble_eq_true rfl) ?_ | (with_reducible apply VB.id; rw [bneI]) | (with_reducible apply VB.id; rw [beqI]) | (with_reducible apply VB.dt; focus omega) | (with_reducible apply VB.df; focus omega) | (with_reducible apply VB.et; focus omega) | (with_reducible apply VB.ef; focus omega) | (with_reducible apply VB.nt; focus omega) | (with_reducible apply VB.nf; focus omega) | fail)
        conv => whnf
        refine VIso.iq (sminus_c (lo.floor : Rat)) ?_
        repeat' ((conv => whnf); first | refine ngo ?_ | refine VB.tt ?_ | refine VB.ff ?_ | refine VNew.keep ?_ | refine dgo ?_ | refine sgo ?_ | refine ddo ?_ | refine And.intro (Nat.le_of_ble_eq_true rfl) ?_ | (with_reducible apply VB.id; rw [bneI]) | (with_reducible apply VB.id; rw [beqI]) | (with_reducible apply VB.dt; focus omega) | (with_reducible apply VB.df; focus omega) | (with_reducible apply VB.et; focus omega) | (with_reducible apply VB.ef; focus omega) | (with_reducible apply VB.nt; focus omega) | (with_reducible apply VB.nf; focus omega) | fail)
        conv => whnf
        refine VIso.iq (c5) ?_
        repeat' ((conv => whnf); first | refine ngo ?_ | refine VB.tt ?_ | refine VB.ff ?_ | refine VNew.keep ?_ | refine dgo ?_ | refine sgo ?_ | refine ddo ?_ | refine And.intro (Nat.le_of_ble_eq_true rfl) ?_ | (with_reducible apply VB.id; rw [bneI]) | (with_reducible apply VB.id; rw [beqI]) | (with_reducible apply VB.dt; focus omega) | (with_reducible apply VB.df; focus omega) | (with_reducible apply VB.et; focus omega) | (with_reducible apply VB.ef; focus omega) | (with_reducible apply VB.nt; focus omega) | (with_reducible apply VB.nf; focus omega) | fail)
        conv => whnf
        refine VIso.iq (sover_c 1 _ n2 (by omega)) ?_
        repeat' ((conv => whnf); first | refine ngo ?_ | refine VB.tt ?_ | refine VB.ff ?_ | refine VNew.keep ?_ | refine dgo ?_ | refine sgo ?_ | refine ddo ?_ | refine And.intro (Nat.le_of_ble_eq_true rfl) ?_ | (with_reducible apply VB.id; rw [bneI]) | (with_reducible apply VB.id; rw [beqI]) | (with_reducible apply VB.dt; focus omega) | (with_reducible apply VB.df; focus omega) | (with_reducible apply VB.et; focus omega) | (with_reducible apply VB.ef; focus omega) | (with_reducible apply VB.nt; focus omega) | (with_reducible apply VB.nf; focus omega) | fail)
        conv => whnf
        refine VIso.iq (ih) ?_
        repeat' ((conv => whnf); first | refine ngo ?_ | refine VB.tt ?_ | refine VB.ff ?_ | refine VNew.keep ?_ | refine dgo ?_ | refine sgo ?_ | refine ddo ?_ | refine And.intro (Nat.le_of_ble_eq_true rfl) ?_ | (with_reducible apply VB.id; rw [bneI]) | (with_reducible apply VB.id; rw [beqI]) | (with_reducible apply VB.dt; focus omega) | (with_reducible apply VB.df; focus omega) | (with_reducible apply VB.et; focus omega) | (with_reducible apply VB.ef; focus omega) | (with_reducible apply VB.nt; focus omega) | (with_reducible apply VB.nf; focus omega) | fail)
        conv => whnf
        refine VIso.iq (swhole_one) ?_
        repeat' ((conv => whnf); first | refine ngo ?_ | refine VB.tt ?_ | refine VB.ff ?_ | refine VNew.keep ?_ | refine dgo ?_ | refine sgo ?_ | refine ddo ?_ | refine And.intro (Nat.le_of_ble_eq_true rfl) ?_ | (with_reducible apply VB.id; rw [bneI]) | (with_reducible apply VB.id; rw [beqI]) | (with_reducible apply VB.dt; focus omega) | (with_reducible apply VB.df; focus omega) | (with_reducible apply VB.et; focus omega) | (with_reducible apply VB.ef; focus omega) | (with_reducible apply VB.nt; focus omega) | (with_reducible apply VB.nf; focus omega) | fail)
        conv => whnf
        refine VIso.iq (sover_c 1 _ hx0 (by omega)) ?_
        repeat' ((conv => whnf); first | refine ngo ?_ | refine VB.tt ?_ | refine VB.ff ?_ | refine VNew.keep ?_ | refine dgo ?_ | refine sgo ?_ | refine ddo ?_ | refine And.intro (Nat.le_of_ble_eq_true rfl) ?_ | (with_reducible apply VB.id; rw [bneI]) | (with_reducible apply VB.id; rw [beqI]) | (with_reducible apply VB.dt; focus omega) | (with_reducible apply VB.df; focus omega) | (with_reducible apply VB.et; focus omega) | (with_reducible apply VB.ef; focus omega) | (with_reducible apply VB.nt; focus omega) | (with_reducible apply VB.nf; focus omega) | fail)
        conv => whnf
        refine VIso.iq (splus_c (lo.floor : Rat) _ (by omega)) ?_
        repeat' ((conv => whnf); first | refine ngo ?_ | refine VB.tt ?_ | refine VB.ff ?_ | refine VNew.keep ?_ | refine dgo ?_ | refine sgo ?_ | refine ddo ?_ | refine And.intro (Nat.le_of_ble_eq_true rfl) ?_ | (with_reducible apply VB.id; rw [bneI]) | (with_reducible apply VB.id; rw [beqI]) | (with_reducible apply VB.dt; focus omega) | (with_reducible apply VB.df; focus omega) | (with_reducible apply VB.et; focus omega) | (with_reducible apply VB.ef; focus omega) | (with_reducible apply VB.nt; focus omega) | (with_reducible apply VB.nf; focus omega) | fail)
        conv => whnf
        exact .same rfl (low_ratV 0 _)

/-- The simplest number of any interval. -/
def simG (lo hi : Rat) : Rat := if 0 < lo then simpQ (lo.den + hi.den) lo hi else if hi < 0 then -simpQ (hi.den + lo.den) (-hi) (-lo) else 0
theorem SimpW.of {lo hi : Rat} {m : Nat} (h : 0 < lo) (hle : lo ≤ hi) (l1 : rl lo ≤ m) (l2 : rl hi ≤ m) : SimpW (lo.den + hi.den) lo hi m := ⟨h, hle, Nat.le_refl _, l1, l2⟩
theorem SimpW.rl_res {n : Nat} {lo hi : Rat} {m : Nat} (h : SimpW n lo hi m) : rl (simpQ n lo hi) ≤ m := by
  have ok := simpQ_ok n h.pos h.le h.n
  have hx : 0 < simpQ n lo hi := by have := ok.ge; have := h.pos; grind
  have d1 := ok.den _ h.le Rat.le_refl
  have d2 := ok.num _ h.le Rat.le_refl
  have p1 := num_pos hx
  have := rl_le (q := simpQ n lo hi) (r := hi) (by omega) d1
  have := h.hi
  omega
theorem rl_simG {lo hi : Rat} {m : Nat} (hle : lo ≤ hi) (l1 : rl lo ≤ m) (l2 : rl hi ≤ m) : rl (simG lo hi) ≤ m := by
  unfold simG
  split
  · exact (SimpW.of (by assumption) hle l1 l2).rl_res
  · split
    · rw [rl_neg]
      have := (SimpW.of (lo := -hi) (hi := -lo) (m := m) (by grind) (by grind) (by rw [rl_neg]; exact l2) (by rw [rl_neg]; exact l1)).rl_res
      simpa using this
    · rw [rl_zero]; have := rl_pos lo; omega
theorem num_neg {q : Rat} (h : q < 0) : q.num < 0 := by
  have := (Rat.lt_iff q 0).1 h
  simpa using this
theorem neg_of_num {q : Rat} (h : q.num < 0) : q < 0 := (Rat.lt_iff q 0).2 (by simpa using h)
theorem ssimple_c {lo hi : Rat} (hle : lo ≤ hi) (l1 : rl lo ≤ 50000) (l2 : rl hi ≤ 50000) : VCall EE 57 [ratV lo, ratV hi] [] fun v H => Fz H 0 [] v (ratV (simG lo hi)) := by
  by_cases hp : 0 < lo
  · rw [simG, if_pos hp]
    exact ssimple_pos _ (SimpW.of hp hle l1 l2) (by decide)
  · rw [simG, if_neg hp]
    by_cases hn : hi < 0
    · rw [if_pos hn]
      have hln : lo < 0 := by grind
      have v1 : ratV lo = .agg [.bool true, natv lo.num.natAbs, natv lo.den] := by rw [ratV, decide_eq_true (num_neg hln)]
      have v2 : ratV hi = .agg [.bool true, natv hi.num.natAbs, natv hi.den] := by rw [ratV, decide_eq_true (num_neg hn)]
      have c1 := sminus_c hi
      have c2 := sminus_c lo
      have hW := SimpW.of (lo := -hi) (hi := -lo) (m := 50000) (by grind) (by grind) (by rw [rl_neg]; exact l2) (by rw [rl_neg]; exact l1)
      have c3 := ssimple_pos _ hW (by decide)
      have d : (-hi).den + (-lo).den = hi.den + lo.den := rfl
      rw [d] at c3
      rw [v2] at c1
      rw [v1] at c2
      rw [v1, v2]
      refine VCall.of_body true Try.func57 rfl (by decide) rfl ?_
      repeat' ((conv => whnf); first | refine ngo ?_ | refine VB.tt ?_ | refine VB.ff ?_ | refine VNew.keep ?_ | refine dgo ?_ | refine sgo ?_ | refine ddo ?_ | refine And.intro (Nat.le_of_ble_eq_true rfl) ?_ | (with_reducible apply VB.id; rw [bneI]) | (with_reducible apply VB.id; rw [beqI]) | (with_reducible apply VB.dt; focus omega) | (with_reducible apply VB.df; focus omega) | (with_reducible apply VB.et; focus omega) | (with_reducible apply VB.ef; focus omega) | (with_reducible apply VB.nt; focus omega) | (with_reducible apply VB.nf; focus omega) | fail)
      conv => whnf
      refine VIso.iq (c1) ?_
      repeat' ((conv => whnf); first | refine ngo ?_ | refine VB.tt ?_ | refine VB.ff ?_ | refine VNew.keep ?_ | refine dgo ?_ | refine sgo ?_ | refine ddo ?_ | refine And.intro (Nat.le_of_ble_eq_true rfl) ?_ | (with_reducible apply VB.id; rw [bneI]) | (with_reducible apply VB.id; rw [beqI]) | (with_reducible apply VB.dt; focus omega) | (with_reducible apply VB.df; focus omega) | (with_reducible apply VB.et; focus omega) | (with_reducible apply VB.ef; focus omega) | (with_reducible apply VB.nt; focus omega) | (with_reducible apply VB.nf; focus omega) | fail)
      conv => whnf
      refine VIso.iq (c2) ?_
      repeat' ((conv => whnf); first | refine ngo ?_ | refine VB.tt ?_ | refine VB.ff ?_ | refine VNew.keep ?_ | refine dgo ?_ | refine sgo ?_ | refine ddo ?_ | refine And.intro (Nat.le_of_ble_eq_true rfl) ?_ | (with_reducible apply VB.id; rw [bneI]) | (with_reducible apply VB.id; rw [beqI]) | (with_reducible apply VB.dt; focus omega) | (with_reducible apply VB.df; focus omega) | (with_reducible apply VB.et; focus omega) | (with_reducible apply VB.ef; focus omega) | (with_reducible apply VB.nt; focus omega) | (with_reducible apply VB.nf; focus omega) | fail)
      conv => whnf
      refine VIso.iq (c3) ?_
      repeat' ((conv => whnf); first | refine ngo ?_ | refine VB.tt ?_ | refine VB.ff ?_ | refine VNew.keep ?_ | refine dgo ?_ | refine sgo ?_ | refine ddo ?_ | refine And.intro (Nat.le_of_ble_eq_true rfl) ?_ | (with_reducible apply VB.id; rw [bneI]) | (with_reducible apply VB.id; rw [beqI]) | (with_reducible apply VB.dt; focus omega) | (with_reducible apply VB.df; focus omega) | (with_reducible apply VB.et; focus omega) | (with_reducible apply VB.ef; focus omega) | (with_reducible apply VB.nt; focus omega) | (with_reducible apply VB.nf; focus omega) | fail)
      conv => whnf
      refine VIso.iq (sminus_c _) ?_
      repeat' ((conv => whnf); first | refine ngo ?_ | refine VB.tt ?_ | refine VB.ff ?_ | refine VNew.keep ?_ | refine dgo ?_ | refine sgo ?_ | refine ddo ?_ | refine And.intro (Nat.le_of_ble_eq_true rfl) ?_ | (with_reducible apply VB.id; rw [bneI]) | (with_reducible apply VB.id; rw [beqI]) | (with_reducible apply VB.dt; focus omega) | (with_reducible apply VB.df; focus omega) | (with_reducible apply VB.et; focus omega) | (with_reducible apply VB.ef; focus omega) | (with_reducible apply VB.nt; focus omega) | (with_reducible apply VB.nf; focus omega) | fail)
      conv => whnf
      exact .same rfl (low_ratV 0 _)
    · rw [if_neg hn]
      have v2 : ratV hi = .agg [.bool false, natv hi.num.natAbs, natv hi.den] := by rw [ratV, decide_eq_false (fun e => hn (neg_of_num e))]
      by_cases hl : lo < 0
      · have v1 : ratV lo = .agg [.bool true, natv lo.num.natAbs, natv lo.den] := by rw [ratV, decide_eq_true (num_neg hl)]
        rw [v1, v2]
        refine VCall.of_body true Try.func57 rfl (by decide) rfl ?_
        repeat' ((conv => whnf); first | refine ngo ?_ | refine VB.tt ?_ | refine VB.ff ?_ | refine VNew.keep ?_ | refine dgo ?_ | refine sgo ?_ | refine ddo ?_ | refine And.intro (Nat.le_of_ble_eq_true rfl) ?_ | (with_reducible apply VB.id; rw [bneI]) | (with_reducible apply VB.id; rw [beqI]) | (with_reducible apply VB.dt; focus omega) | (with_reducible apply VB.df; focus omega) | (with_reducible apply VB.et; focus omega) | (with_reducible apply VB.ef; focus omega) | (with_reducible apply VB.nt; focus omega) | (with_reducible apply VB.nf; focus omega) | fail)
        conv => whnf
        refine VCall.iq (swhole_zero) ?_
        repeat' ((conv => whnf); first | refine ngo ?_ | refine VB.tt ?_ | refine VB.ff ?_ | refine VNew.keep ?_ | refine dgo ?_ | refine sgo ?_ | refine ddo ?_ | refine And.intro (Nat.le_of_ble_eq_true rfl) ?_ | (with_reducible apply VB.id; rw [bneI]) | (with_reducible apply VB.id; rw [beqI]) | (with_reducible apply VB.dt; focus omega) | (with_reducible apply VB.df; focus omega) | (with_reducible apply VB.et; focus omega) | (with_reducible apply VB.ef; focus omega) | (with_reducible apply VB.nt; focus omega) | (with_reducible apply VB.nf; focus omega) | fail)
        conv => whnf
        exact .same rfl (low_ratV 0 _)
      · have h0 : lo = 0 := by grind
        subst h0
        have hz := szero_c 0
        rw [decide_eq_true rfl] at hz
        have v1 : ratV 0 = .agg [.bool false, natv 0, natv 1] := rfl
        rw [v1] at hz
        rw [show ratV 0 = .agg [.bool false, natv 0, natv 1] from rfl, v2]
        refine VCall.of_body true Try.func57 rfl (by decide) rfl ?_
        repeat' ((conv => whnf); first | refine ngo ?_ | refine VB.tt ?_ | refine VB.ff ?_ | refine VNew.keep ?_ | refine dgo ?_ | refine sgo ?_ | refine ddo ?_ | refine And.intro (Nat.le_of_ble_eq_true rfl) ?_ | (with_reducible apply VB.id; rw [bneI]) | (with_reducible apply VB.id; rw [beqI]) | (with_reducible apply VB.dt; focus omega) | (with_reducible apply VB.df; focus omega) | (with_reducible apply VB.et; focus omega) | (with_reducible apply VB.ef; focus omega) | (with_reducible apply VB.nt; focus omega) | (with_reducible apply VB.nf; focus omega) | fail)
        conv => whnf
        refine VCall.sq (hz) ?_
        repeat' ((conv => whnf); first | refine ngo ?_ | refine VB.tt ?_ | refine VB.ff ?_ | refine VNew.keep ?_ | refine dgo ?_ | refine sgo ?_ | refine ddo ?_ | refine And.intro (Nat.le_of_ble_eq_true rfl) ?_ | (with_reducible apply VB.id; rw [bneI]) | (with_reducible apply VB.id; rw [beqI]) | (with_reducible apply VB.dt; focus omega) | (with_reducible apply VB.df; focus omega) | (with_reducible apply VB.et; focus omega) | (with_reducible apply VB.ef; focus omega) | (with_reducible apply VB.nt; focus omega) | (with_reducible apply VB.nf; focus omega) | fail)
        conv => whnf
        refine VCall.iq (swhole_zero) ?_
        repeat' ((conv => whnf); first | refine ngo ?_ | refine VB.tt ?_ | refine VB.ff ?_ | refine VNew.keep ?_ | refine dgo ?_ | refine sgo ?_ | refine ddo ?_ | refine And.intro (Nat.le_of_ble_eq_true rfl) ?_ | (with_reducible apply VB.id; rw [bneI]) | (with_reducible apply VB.id; rw [beqI]) | (with_reducible apply VB.dt; focus omega) | (with_reducible apply VB.df; focus omega) | (with_reducible apply VB.et; focus omega) | (with_reducible apply VB.ef; focus omega) | (with_reducible apply VB.nt; focus omega) | (with_reducible apply VB.nf; focus omega) | fail)
        conv => whnf
        exact .same rfl ⟨trivial, low_natv 0 _, low_natv 0 _, trivial⟩

/-- The simplest number, or which error. -/
def simE (lo hi : Rat) : Int := if hi < lo then 9 else ovf (simG lo hi)
theorem ovf_small {q : Rat} (h : rl q ≤ 1024) : ovf q = 0 := by rw [ovf, if_neg (by omega)]
theorem qsimple1_c {lo hi : Rat} (l1 : rl lo ≤ 1024) (l2 : rl hi ≤ 1024) : VCall EE 48 [ratV lo, ratV hi] [] fun v H => Fz H 0 [] v (outQ (simE lo hi) (simG lo hi)) := by
  refine VCall.of_body true Try.func48 rfl (by decide) rfl ?_
  have hz := rl_zero
  repeat' ((conv => whnf); first | refine ngo ?_ | refine VB.tt ?_ | refine VB.ff ?_ | refine VNew.keep ?_ | refine dgo ?_ | refine sgo ?_ | refine ddo ?_ | refine And.intro (Nat.le_of_ble_eq_true rfl) ?_ | (with_reducible apply VB.id; rw [bneI]) | (with_reducible apply VB.id; rw [beqI]) | (with_reducible apply VB.dt; focus omega) | (with_reducible apply VB.df; focus omega) | (with_reducible apply VB.et; focus omega) | (with_reducible apply VB.ef; focus omega) | (with_reducible apply VB.nt; focus omega) | (with_reducible apply VB.nf; focus omega) | fail)
  conv => whnf
  refine VCall.iq (ratio_zero) ?_
  repeat' ((conv => whnf); first | refine ngo ?_ | refine VB.tt ?_ | refine VB.ff ?_ | refine VNew.keep ?_ | refine dgo ?_ | refine sgo ?_ | refine ddo ?_ | refine And.intro (Nat.le_of_ble_eq_true rfl) ?_ | (with_reducible apply VB.id; rw [bneI]) | (with_reducible apply VB.id; rw [beqI]) | (with_reducible apply VB.dt; focus omega) | (with_reducible apply VB.df; focus omega) | (with_reducible apply VB.et; focus omega) | (with_reducible apply VB.ef; focus omega) | (with_reducible apply VB.nt; focus omega) | (with_reducible apply VB.nf; focus omega) | fail)
  conv => whnf
  refine VCall.sq (compare_c lo hi (by omega)) ?_
  repeat' ((conv => whnf); first | refine ngo ?_ | refine VB.tt ?_ | refine VB.ff ?_ | refine VNew.keep ?_ | refine dgo ?_ | refine sgo ?_ | refine ddo ?_ | refine And.intro (Nat.le_of_ble_eq_true rfl) ?_ | (with_reducible apply VB.id; rw [bneI]) | (with_reducible apply VB.id; rw [beqI]) | (with_reducible apply VB.dt; focus omega) | (with_reducible apply VB.df; focus omega) | (with_reducible apply VB.et; focus omega) | (with_reducible apply VB.ef; focus omega) | (with_reducible apply VB.nt; focus omega) | (with_reducible apply VB.nf; focus omega) | fail)
  conv => whnf
  refine VB.eq (fun h => ?_) (fun h => ?_)
  · have h := cmpQ_one.1 h
    repeat' ((conv => whnf); first | refine ngo ?_ | refine VB.tt ?_ | refine VB.ff ?_ | refine VNew.keep ?_ | refine dgo ?_ | refine sgo ?_ | refine ddo ?_ | refine And.intro (Nat.le_of_ble_eq_true rfl) ?_ | (with_reducible apply VB.id; rw [bneI]) | (with_reducible apply VB.id; rw [beqI]) | (with_reducible apply VB.dt; focus omega) | (with_reducible apply VB.df; focus omega) | (with_reducible apply VB.et; focus omega) | (with_reducible apply VB.ef; focus omega) | (with_reducible apply VB.nt; focus omega) | (with_reducible apply VB.nf; focus omega) | fail)
    conv => whnf
    rw [simE, if_pos h, outQ, outR, if_neg (by decide)]
    exact fz_err
  · have h : ¬ hi < lo := fun e => h (cmpQ_one.2 e)
    have hle : lo ≤ hi := Rat.not_lt.1 h
    have hr := rl_simG hle l1 l2
    rw [simE, if_neg h]
    repeat' ((conv => whnf); first | refine ngo ?_ | refine VB.tt ?_ | refine VB.ff ?_ | refine VNew.keep ?_ | refine dgo ?_ | refine sgo ?_ | refine ddo ?_ | refine And.intro (Nat.le_of_ble_eq_true rfl) ?_ | (with_reducible apply VB.id; rw [bneI]) | (with_reducible apply VB.id; rw [beqI]) | (with_reducible apply VB.dt; focus omega) | (with_reducible apply VB.df; focus omega) | (with_reducible apply VB.et; focus omega) | (with_reducible apply VB.ef; focus omega) | (with_reducible apply VB.nt; focus omega) | (with_reducible apply VB.nf; focus omega) | fail)
    conv => whnf
    refine VCall.sq (compare_c lo 0 (by omega)) ?_
    repeat' ((conv => whnf); first | refine ngo ?_ | refine VB.tt ?_ | refine VB.ff ?_ | refine VNew.keep ?_ | refine dgo ?_ | refine sgo ?_ | refine ddo ?_ | refine And.intro (Nat.le_of_ble_eq_true rfl) ?_ | (with_reducible apply VB.id; rw [bneI]) | (with_reducible apply VB.id; rw [beqI]) | (with_reducible apply VB.dt; focus omega) | (with_reducible apply VB.df; focus omega) | (with_reducible apply VB.et; focus omega) | (with_reducible apply VB.ef; focus omega) | (with_reducible apply VB.nt; focus omega) | (with_reducible apply VB.nf; focus omega) | fail)
    conv => whnf
    refine VB.eq (fun h2 => ?_) (fun h2 => ?_)
    · have h2 := cmpQ_one.1 h2
      have hs : simG lo hi = simpQ (lo.den + hi.den) lo hi := by rw [simG, if_pos h2]
      rw [hs] at hr ⊢
      repeat' ((conv => whnf); first | refine ngo ?_ | refine VB.tt ?_ | refine VB.ff ?_ | refine VNew.keep ?_ | refine dgo ?_ | refine sgo ?_ | refine ddo ?_ | refine And.intro (Nat.le_of_ble_eq_true rfl) ?_ | (with_reducible apply VB.id; rw [bneI]) | (with_reducible apply VB.id; rw [beqI]) | (with_reducible apply VB.dt; focus omega) | (with_reducible apply VB.df; focus omega) | (with_reducible apply VB.et; focus omega) | (with_reducible apply VB.ef; focus omega) | (with_reducible apply VB.nt; focus omega) | (with_reducible apply VB.nf; focus omega) | fail)
      conv => whnf
      refine VCall.iq (simple_c _ (SimpW.of h2 hle l1 l2) (by decide)) ?_
      repeat' ((conv => whnf); first | refine ngo ?_ | refine VB.tt ?_ | refine VB.ff ?_ | refine VNew.keep ?_ | refine dgo ?_ | refine sgo ?_ | refine ddo ?_ | refine And.intro (Nat.le_of_ble_eq_true rfl) ?_ | (with_reducible apply VB.id; rw [bneI]) | (with_reducible apply VB.id; rw [beqI]) | (with_reducible apply VB.dt; focus omega) | (with_reducible apply VB.df; focus omega) | (with_reducible apply VB.et; focus omega) | (with_reducible apply VB.ef; focus omega) | (with_reducible apply VB.nt; focus omega) | (with_reducible apply VB.nf; focus omega) | fail)
      conv => whnf
      refine VCall.iq (fitsq_c _ (by omega)) ?_
      repeat' ((conv => whnf); first | refine ngo ?_ | refine VB.tt ?_ | refine VB.ff ?_ | refine VNew.keep ?_ | refine dgo ?_ | refine sgo ?_ | refine ddo ?_ | refine And.intro (Nat.le_of_ble_eq_true rfl) ?_ | (with_reducible apply VB.id; rw [bneI]) | (with_reducible apply VB.id; rw [beqI]) | (with_reducible apply VB.dt; focus omega) | (with_reducible apply VB.df; focus omega) | (with_reducible apply VB.et; focus omega) | (with_reducible apply VB.ef; focus omega) | (with_reducible apply VB.nt; focus omega) | (with_reducible apply VB.nf; focus omega) | fail)
      conv => whnf
      exact .same rfl (low_outQ 0 _ _)
    · have h2 : ¬ 0 < lo := fun e => h2 (cmpQ_one.2 e)
      repeat' ((conv => whnf); first | refine ngo ?_ | refine VB.tt ?_ | refine VB.ff ?_ | refine VNew.keep ?_ | refine dgo ?_ | refine sgo ?_ | refine ddo ?_ | refine And.intro (Nat.le_of_ble_eq_true rfl) ?_ | (with_reducible apply VB.id; rw [bneI]) | (with_reducible apply VB.id; rw [beqI]) | (with_reducible apply VB.dt; focus omega) | (with_reducible apply VB.df; focus omega) | (with_reducible apply VB.et; focus omega) | (with_reducible apply VB.ef; focus omega) | (with_reducible apply VB.nt; focus omega) | (with_reducible apply VB.nf; focus omega) | fail)
      conv => whnf
      refine VCall.sq (compare_c hi 0 (by omega)) ?_
      repeat' ((conv => whnf); first | refine ngo ?_ | refine VB.tt ?_ | refine VB.ff ?_ | refine VNew.keep ?_ | refine dgo ?_ | refine sgo ?_ | refine ddo ?_ | refine And.intro (Nat.le_of_ble_eq_true rfl) ?_ | (with_reducible apply VB.id; rw [bneI]) | (with_reducible apply VB.id; rw [beqI]) | (with_reducible apply VB.dt; focus omega) | (with_reducible apply VB.df; focus omega) | (with_reducible apply VB.et; focus omega) | (with_reducible apply VB.ef; focus omega) | (with_reducible apply VB.nt; focus omega) | (with_reducible apply VB.nf; focus omega) | fail)
      conv => whnf
      refine VB.eq (fun h3 => ?_) (fun h3 => ?_)
      · have h3 := cmpQ_neg.1 h3
        have hs : simG lo hi = -simpQ (hi.den + lo.den) (-hi) (-lo) := by rw [simG, if_neg h2, if_pos h3]
        have hW := SimpW.of (lo := -hi) (hi := -lo) (m := 1024) (by grind) (by grind) (by rw [rl_neg]; exact l2) (by rw [rl_neg]; exact l1)
        have c3 := simple_c _ hW (by decide)
        have d : (-hi).den + (-lo).den = hi.den + lo.den := rfl
        rw [d] at c3
        rw [hs] at hr ⊢
        rw [rl_neg] at hr
        repeat' ((conv => whnf); first | refine ngo ?_ | refine VB.tt ?_ | refine VB.ff ?_ | refine VNew.keep ?_ | refine dgo ?_ | refine sgo ?_ | refine ddo ?_ | refine And.intro (Nat.le_of_ble_eq_true rfl) ?_ | (with_reducible apply VB.id; rw [bneI]) | (with_reducible apply VB.id; rw [beqI]) | (with_reducible apply VB.dt; focus omega) | (with_reducible apply VB.df; focus omega) | (with_reducible apply VB.et; focus omega) | (with_reducible apply VB.ef; focus omega) | (with_reducible apply VB.nt; focus omega) | (with_reducible apply VB.nf; focus omega) | fail)
        conv => whnf
        refine VIso.iq (minus_c hi (by omega)) ?_
        repeat' ((conv => whnf); first | refine ngo ?_ | refine VB.tt ?_ | refine VB.ff ?_ | refine VNew.keep ?_ | refine dgo ?_ | refine sgo ?_ | refine ddo ?_ | refine And.intro (Nat.le_of_ble_eq_true rfl) ?_ | (with_reducible apply VB.id; rw [bneI]) | (with_reducible apply VB.id; rw [beqI]) | (with_reducible apply VB.dt; focus omega) | (with_reducible apply VB.df; focus omega) | (with_reducible apply VB.et; focus omega) | (with_reducible apply VB.ef; focus omega) | (with_reducible apply VB.nt; focus omega) | (with_reducible apply VB.nf; focus omega) | fail)
        conv => whnf
        refine VIso.iq (minus_c lo (by omega)) ?_
        repeat' ((conv => whnf); first | refine ngo ?_ | refine VB.tt ?_ | refine VB.ff ?_ | refine VNew.keep ?_ | refine dgo ?_ | refine sgo ?_ | refine ddo ?_ | refine And.intro (Nat.le_of_ble_eq_true rfl) ?_ | (with_reducible apply VB.id; rw [bneI]) | (with_reducible apply VB.id; rw [beqI]) | (with_reducible apply VB.dt; focus omega) | (with_reducible apply VB.df; focus omega) | (with_reducible apply VB.et; focus omega) | (with_reducible apply VB.ef; focus omega) | (with_reducible apply VB.nt; focus omega) | (with_reducible apply VB.nf; focus omega) | fail)
        conv => whnf
        refine VIso.iq (c3) ?_
        repeat' ((conv => whnf); first | refine ngo ?_ | refine VB.tt ?_ | refine VB.ff ?_ | refine VNew.keep ?_ | refine dgo ?_ | refine sgo ?_ | refine ddo ?_ | refine And.intro (Nat.le_of_ble_eq_true rfl) ?_ | (with_reducible apply VB.id; rw [bneI]) | (with_reducible apply VB.id; rw [beqI]) | (with_reducible apply VB.dt; focus omega) | (with_reducible apply VB.df; focus omega) | (with_reducible apply VB.et; focus omega) | (with_reducible apply VB.ef; focus omega) | (with_reducible apply VB.nt; focus omega) | (with_reducible apply VB.nf; focus omega) | fail)
        conv => whnf
        refine VIso.iq (minus_c _ (by omega)) ?_
        repeat' ((conv => whnf); first | refine ngo ?_ | refine VB.tt ?_ | refine VB.ff ?_ | refine VNew.keep ?_ | refine dgo ?_ | refine sgo ?_ | refine ddo ?_ | refine And.intro (Nat.le_of_ble_eq_true rfl) ?_ | (with_reducible apply VB.id; rw [bneI]) | (with_reducible apply VB.id; rw [beqI]) | (with_reducible apply VB.dt; focus omega) | (with_reducible apply VB.df; focus omega) | (with_reducible apply VB.et; focus omega) | (with_reducible apply VB.ef; focus omega) | (with_reducible apply VB.nt; focus omega) | (with_reducible apply VB.nf; focus omega) | fail)
        conv => whnf
        refine VIso.iq (fitsq_c _ (by rw [rl_neg]; omega)) ?_
        repeat' ((conv => whnf); first | refine ngo ?_ | refine VB.tt ?_ | refine VB.ff ?_ | refine VNew.keep ?_ | refine dgo ?_ | refine sgo ?_ | refine ddo ?_ | refine And.intro (Nat.le_of_ble_eq_true rfl) ?_ | (with_reducible apply VB.id; rw [bneI]) | (with_reducible apply VB.id; rw [beqI]) | (with_reducible apply VB.dt; focus omega) | (with_reducible apply VB.df; focus omega) | (with_reducible apply VB.et; focus omega) | (with_reducible apply VB.ef; focus omega) | (with_reducible apply VB.nt; focus omega) | (with_reducible apply VB.nf; focus omega) | fail)
        conv => whnf
        exact .same rfl (low_outQ 0 _ _)
      · have h3 : ¬ hi < 0 := fun e => h3 (cmpQ_neg.2 e)
        have hs : simG lo hi = 0 := by rw [simG, if_neg h2, if_neg h3]
        rw [hs, ovf_small (by rw [rl_zero]; decide), outQ, outR, if_pos rfl]
        repeat' ((conv => whnf); first | refine ngo ?_ | refine VB.tt ?_ | refine VB.ff ?_ | refine VNew.keep ?_ | refine dgo ?_ | refine sgo ?_ | refine ddo ?_ | refine And.intro (Nat.le_of_ble_eq_true rfl) ?_ | (with_reducible apply VB.id; rw [bneI]) | (with_reducible apply VB.id; rw [beqI]) | (with_reducible apply VB.dt; focus omega) | (with_reducible apply VB.df; focus omega) | (with_reducible apply VB.et; focus omega) | (with_reducible apply VB.ef; focus omega) | (with_reducible apply VB.nt; focus omega) | (with_reducible apply VB.nf; focus omega) | fail)
        conv => whnf
        exact .same rfl ⟨low_ratV 0 0, trivial, trivial⟩

theorem qsimple_c (a b : RawQ) (la : lenQ a 1000000000000000000) (lb : lenQ b 1000000000000000000) : VCall EE 11 [rawV a, rawV b] [] fun v H => Fz H 0 [] v (opQ a b (simE (valQ a) (valQ b)) (simG (valQ a) (valQ b))) := by
  refine VCall.of_body true Try.func11 rfl (by decide) rfl ?_
  have hf := foldq_c (g := 48) (e := simE (valQ a) (valQ b)) (q := simG (valQ a) (valQ b)) la lb (fun h => by
    obtain ⟨h1, h2⟩ := bothQ_zero h
    obtain ⟨e1, l1, _⟩ := chkQ_zero h1
    obtain ⟨e2, l2, _⟩ := chkQ_zero h2
    rw [e1, e2]
    exact qsimple1_c l1 l2)
  repeat' ((conv => whnf); first | refine ngo ?_ | refine VB.tt ?_ | refine VB.ff ?_ | refine VNew.keep ?_ | refine dgo ?_ | refine sgo ?_ | refine ddo ?_ | refine And.intro (Nat.le_of_ble_eq_true rfl) ?_ | (with_reducible apply VB.id; rw [bneI]) | (with_reducible apply VB.id; rw [beqI]) | (with_reducible apply VB.dt; focus omega) | (with_reducible apply VB.df; focus omega) | (with_reducible apply VB.et; focus omega) | (with_reducible apply VB.ef; focus omega) | (with_reducible apply VB.nt; focus omega) | (with_reducible apply VB.nf; focus omega) | fail)
  conv => whnf
  refine VCall.iq (hf) ?_
  repeat' ((conv => whnf); first | refine ngo ?_ | refine VB.tt ?_ | refine VB.ff ?_ | refine VNew.keep ?_ | refine dgo ?_ | refine sgo ?_ | refine ddo ?_ | refine And.intro (Nat.le_of_ble_eq_true rfl) ?_ | (with_reducible apply VB.id; rw [bneI]) | (with_reducible apply VB.id; rw [beqI]) | (with_reducible apply VB.dt; focus omega) | (with_reducible apply VB.df; focus omega) | (with_reducible apply VB.et; focus omega) | (with_reducible apply VB.ef; focus omega) | (with_reducible apply VB.nt; focus omega) | (with_reducible apply VB.nf; focus omega) | fail)
  conv => whnf
  exact .same rfl (low_outQ 0 _ _)

theorem sSimple_c (a b : RawQ) (la : lenQ a 1000000000000000000) (lb : lenQ b 1000000000000000000) : VCall EE 12 [rawV a, rawV b] [] fun v H => Fz H 0 [] v (opQ a b (simE (valQ a) (valQ b)) (simG (valQ a) (valQ b))) := by
  refine VCall.of_body true Try.func12 rfl (by decide) rfl ?_
  repeat' ((conv => whnf); first | refine ngo ?_ | refine VB.tt ?_ | refine VB.ff ?_ | refine VNew.keep ?_ | refine dgo ?_ | refine sgo ?_ | refine ddo ?_ | refine And.intro (Nat.le_of_ble_eq_true rfl) ?_ | (with_reducible apply VB.id; rw [bneI]) | (with_reducible apply VB.id; rw [beqI]) | (with_reducible apply VB.dt; focus omega) | (with_reducible apply VB.df; focus omega) | (with_reducible apply VB.et; focus omega) | (with_reducible apply VB.ef; focus omega) | (with_reducible apply VB.nt; focus omega) | (with_reducible apply VB.nf; focus omega) | fail)
  conv => whnf
  refine VCall.sq (sboth_c a b la lb) ?_
  repeat' ((conv => whnf); first | refine ngo ?_ | refine VB.tt ?_ | refine VB.ff ?_ | refine VNew.keep ?_ | refine dgo ?_ | refine sgo ?_ | refine ddo ?_ | refine And.intro (Nat.le_of_ble_eq_true rfl) ?_ | (with_reducible apply VB.id; rw [bneI]) | (with_reducible apply VB.id; rw [beqI]) | (with_reducible apply VB.dt; focus omega) | (with_reducible apply VB.df; focus omega) | (with_reducible apply VB.et; focus omega) | (with_reducible apply VB.ef; focus omega) | (with_reducible apply VB.nt; focus omega) | (with_reducible apply VB.nf; focus omega) | fail)
  conv => whnf
  refine VB.ne (fun h => ?_) (fun h => ?_)
  · repeat' ((conv => whnf); first | refine ngo ?_ | refine VB.tt ?_ | refine VB.ff ?_ | refine VNew.keep ?_ | refine dgo ?_ | refine sgo ?_ | refine ddo ?_ | refine And.intro (Nat.le_of_ble_eq_true rfl) ?_ | (with_reducible apply VB.id; rw [bneI]) | (with_reducible apply VB.id; rw [beqI]) | (with_reducible apply VB.dt; focus omega) | (with_reducible apply VB.df; focus omega) | (with_reducible apply VB.et; focus omega) | (with_reducible apply VB.ef; focus omega) | (with_reducible apply VB.nt; focus omega) | (with_reducible apply VB.nf; focus omega) | fail)
    conv => whnf
    rw [opQ_err h]
    exact fz_err
  · obtain ⟨h1, h2⟩ := bothQ_zero h
    obtain ⟨e1, l1, _⟩ := chkQ_zero h1
    obtain ⟨e2, l2, _⟩ := chkQ_zero h2
    rw [opQ_zero h]
    repeat' ((conv => whnf); first | refine ngo ?_ | refine VB.tt ?_ | refine VB.ff ?_ | refine VNew.keep ?_ | refine dgo ?_ | refine sgo ?_ | refine ddo ?_ | refine And.intro (Nat.le_of_ble_eq_true rfl) ?_ | (with_reducible apply VB.id; rw [bneI]) | (with_reducible apply VB.id; rw [beqI]) | (with_reducible apply VB.dt; focus omega) | (with_reducible apply VB.df; focus omega) | (with_reducible apply VB.et; focus omega) | (with_reducible apply VB.ef; focus omega) | (with_reducible apply VB.nt; focus omega) | (with_reducible apply VB.nf; focus omega) | fail)
    conv => whnf
    show VCall EE _ [rawV a, rawV b] _ _
    rw [e1, e2]
    refine VCall.sq (sorder_c (valQ a) (valQ b) (by omega)) ?_
    repeat' ((conv => whnf); first | refine ngo ?_ | refine VB.tt ?_ | refine VB.ff ?_ | refine VNew.keep ?_ | refine dgo ?_ | refine sgo ?_ | refine ddo ?_ | refine And.intro (Nat.le_of_ble_eq_true rfl) ?_ | (with_reducible apply VB.id; rw [bneI]) | (with_reducible apply VB.id; rw [beqI]) | (with_reducible apply VB.dt; focus omega) | (with_reducible apply VB.df; focus omega) | (with_reducible apply VB.et; focus omega) | (with_reducible apply VB.ef; focus omega) | (with_reducible apply VB.nt; focus omega) | (with_reducible apply VB.nf; focus omega) | fail)
    conv => whnf
    refine VB.dec (fun h3 => ?_) (fun h3 => ?_)
    · have h3 := cmpQ_one.1 (by have := cmpQ_cases (valQ a) (valQ b); omega : cmpQ (valQ a) (valQ b) = 1)
      repeat' ((conv => whnf); first | refine ngo ?_ | refine VB.tt ?_ | refine VB.ff ?_ | refine VNew.keep ?_ | refine dgo ?_ | refine sgo ?_ | refine ddo ?_ | refine And.intro (Nat.le_of_ble_eq_true rfl) ?_ | (with_reducible apply VB.id; rw [bneI]) | (with_reducible apply VB.id; rw [beqI]) | (with_reducible apply VB.dt; focus omega) | (with_reducible apply VB.df; focus omega) | (with_reducible apply VB.et; focus omega) | (with_reducible apply VB.ef; focus omega) | (with_reducible apply VB.nt; focus omega) | (with_reducible apply VB.nf; focus omega) | fail)
      conv => whnf
      rw [simE, if_pos h3, outQ, outR, if_neg (by decide)]
      exact fz_err
    · have h3 : ¬ valQ b < valQ a := fun e => h3 (by rw [cmpQ_one.2 e]; decide)
      have hle := Rat.not_lt.1 h3
      have hr := rl_simG hle l1 l2
      rw [simE, if_neg h3]
      repeat' ((conv => whnf); first | refine ngo ?_ | refine VB.tt ?_ | refine VB.ff ?_ | refine VNew.keep ?_ | refine dgo ?_ | refine sgo ?_ | refine ddo ?_ | refine And.intro (Nat.le_of_ble_eq_true rfl) ?_ | (with_reducible apply VB.id; rw [bneI]) | (with_reducible apply VB.id; rw [beqI]) | (with_reducible apply VB.dt; focus omega) | (with_reducible apply VB.df; focus omega) | (with_reducible apply VB.et; focus omega) | (with_reducible apply VB.ef; focus omega) | (with_reducible apply VB.nt; focus omega) | (with_reducible apply VB.nf; focus omega) | fail)
      conv => whnf
      show VCall EE _ [rawV a, rawV b] _ _
      rw [e1, e2]
      refine VCall.iq (ssimple_c hle (by omega) (by omega)) ?_
      repeat' ((conv => whnf); first | refine ngo ?_ | refine VB.tt ?_ | refine VB.ff ?_ | refine VNew.keep ?_ | refine dgo ?_ | refine sgo ?_ | refine ddo ?_ | refine And.intro (Nat.le_of_ble_eq_true rfl) ?_ | (with_reducible apply VB.id; rw [bneI]) | (with_reducible apply VB.id; rw [beqI]) | (with_reducible apply VB.dt; focus omega) | (with_reducible apply VB.df; focus omega) | (with_reducible apply VB.et; focus omega) | (with_reducible apply VB.ef; focus omega) | (with_reducible apply VB.nt; focus omega) | (with_reducible apply VB.nf; focus omega) | fail)
      conv => whnf
      refine VCall.iq (sfits_c _ (by omega)) ?_
      repeat' ((conv => whnf); first | refine ngo ?_ | refine VB.tt ?_ | refine VB.ff ?_ | refine VNew.keep ?_ | refine dgo ?_ | refine sgo ?_ | refine ddo ?_ | refine And.intro (Nat.le_of_ble_eq_true rfl) ?_ | (with_reducible apply VB.id; rw [bneI]) | (with_reducible apply VB.id; rw [beqI]) | (with_reducible apply VB.dt; focus omega) | (with_reducible apply VB.df; focus omega) | (with_reducible apply VB.et; focus omega) | (with_reducible apply VB.ef; focus omega) | (with_reducible apply VB.nt; focus omega) | (with_reducible apply VB.nf; focus omega) | fail)
      conv => whnf
      exact .same rfl (low_outQ 0 _ _)
end Go.Proofs.Ytoijfbdjlagooaa


/- Contracts: fractions that the kit makes; calls over fractions that are valid. -/
namespace Go.Proofs.Ytoijfbdjlagooaa
open Go Go.RowKit
set_option linter.unusedVariables false
set_option linter.unusedSimpArgs false
set_option maxRecDepth 100000

theorem natof_c (n : Nat) (h2 : n < 9223372036854775808) : VCall EE 59 [.int .i64 n] [] fun v H => Fz H 0 [] v (natv n) := by
  refine VCall.of_body true Try.func59 rfl (by decide) rfl ?_
  repeat' ((conv => whnf); first | refine ngo ?_ | refine VB.tt ?_ | refine VB.ff ?_ | refine VNew.keep ?_ | refine dgo ?_ | refine sgo ?_ | fail)
  conv => whnf
  refine VLoop.tr true (fun x : List Nat × Nat => ⟨[(0, .int .i64 x.2), (3, accV x.1)], accH 41 x.1, []⟩) (fun x => x.2 ≤ n ∧ x.1 ++ dg x.2 = dg n) (fun x => x.2) ([], n) ⟨Nat.le_refl _, rfl⟩ ⟨⟨rfl, rfl, trivial⟩, rfl, rfl⟩ ?_
  rintro ⟨l, r⟩ ⟨hr, he⟩
  dsimp only at hr he ⊢
  have hl : l.length < 1000000 := by
    have h1 := congrArg List.length he
    have h2 : (dg n).length ≤ 3 := length_dg_lt (Nat.lt_of_lt_of_le (show n < 9223372036854775808 by omega) (by decide))
    rw [List.length_append] at h1
    omega
  repeat' ((conv => whnf); first | refine ngo ?_ | refine VB.tt ?_ | refine VB.ff ?_ | refine VNew.keep ?_ | refine dgo ?_ | refine sgo ?_ | fail)
  conv => whnf
  refine VB.dec (fun h => ?_) (fun h => ?_)
  · have g5 := tdiv_BB r
    have g6 := tmod_BB r
    have hm := Nat.mod_lt r (show 0 < BB by decide)
    have hdv : r / BB < r := Nat.div_lt_self (by omega) (by decide)
    have hdg := dg_pos (n := r) (by omega)
    have hBB : BB = 1000000000 := rfl
    generalize r / BB = q at *
    generalize r % BB = m at *
    cases l with
    | nil =>
      repeat' ((conv => whnf); first | refine ngo ?_ | refine VB.tt ?_ | refine VB.ff ?_ | refine VNew.keep ?_ | refine dgo ?_ | refine sgo ?_ | fail)
      conv => whnf
      rw [g6]
      repeat' ((conv => whnf); first | refine ngo ?_ | refine VB.tt ?_ | refine VB.ff ?_ | refine VNew.keep ?_ | refine dgo ?_ | refine sgo ?_ | fail)
      conv => whnf
      refine ⟨([m], q), ⟨by dsimp only; omega, by simpa [hdg] using he⟩, hdv, [1], by simp, by simp, ⟨⟨_, rfl, .cells rfl (FzL.same rfl (low_limbs _ [m]))⟩, trivial⟩, ⟨⟨_, rfl, .same (by rw [g5]) trivial⟩, ⟨_, rfl, .kosl (j := 0) rfl rfl rfl rfl⟩, trivial⟩, rfl, by simp⟩
    | cons x l =>
      simp only [List.length_cons] at hl
      repeat' ((conv => whnf); first | refine ngo ?_ | refine VB.tt ?_ | refine VB.ff ?_ | refine VNew.keep ?_ | refine dgo ?_ | refine sgo ?_ | fail)
      conv => whnf
      rw [g6]
      repeat' ((conv => whnf); first | refine ngo ?_ | refine VB.tt ?_ | refine VB.ff ?_ | refine VNew.keep ?_ | refine dgo ?_ | refine sgo ?_ | fail)
      conv => whnf
      refine ⟨(x :: l ++ [m], q), ⟨by dsimp only; omega, by simpa [hdg] using he⟩, hdv, [0], by simp, by simp, ⟨⟨_, rfl, .cells (by simp) (FzL.same ?_ (low_limbs _ (x :: l ++ [m])))⟩, trivial⟩, ⟨⟨_, rfl, .same (by rw [g5]) trivial⟩, ⟨_, rfl, .kosl (j := 0) rfl rfl (by simp) (by simp)⟩, trivial⟩, rfl, by simp⟩
      rw [Nat.mul_one, List.take_of_length_le (by simp [limbs])]
      simp [limbs]
  · have : r = 0 := by omega
    subst this
    rw [dg_zero, List.append_nil] at he
    cases l with
    | nil =>
      repeat' ((conv => whnf); first | refine ngo ?_ | refine VB.tt ?_ | refine VB.ff ?_ | refine VNew.keep ?_ | refine dgo ?_ | refine sgo ?_ | fail)
      conv => whnf
      rw [natv, ← he]
      exact .nsl
    | cons x l =>
      repeat' ((conv => whnf); first | refine ngo ?_ | refine VB.tt ?_ | refine VB.ff ?_ | refine VNew.keep ?_ | refine dgo ?_ | refine sgo ?_ | fail)
      conv => whnf
      rw [natv, ← he]
      exact accV_fz 41 (x :: l)

theorem kgcd_c (a b : Nat) (ha : a < 9223372036854775808) (hb : b < 9223372036854775808) : VCall EE 58 [.int .i64 a, .int .i64 b] [] fun v H => v = .int .i64 (Nat.gcd a b : Nat) := by
  refine VCall.of_body true Try.func58 rfl (by decide) rfl ?_
  repeat' ((conv => whnf); first | refine ngo ?_ | refine VB.tt ?_ | refine VB.ff ?_ | refine VNew.keep ?_ | refine dgo ?_ | refine sgo ?_ | refine ddo ?_ | refine And.intro (Nat.le_of_ble_eq_true rfl) ?_ | (with_reducible apply VB.id; rw [bneI]) | (with_reducible apply VB.id; rw [beqI]) | (with_reducible apply VB.dt; focus omega) | (with_reducible apply VB.df; focus omega) | (with_reducible apply VB.et; focus omega) | (with_reducible apply VB.ef; focus omega) | (with_reducible apply VB.nt; focus omega) | (with_reducible apply VB.nf; focus omega) | fail)
  conv => whnf
  refine VLoop.ix true (fun x : Nat × Nat => ⟨[(0, .int .i64 x.1), (1, .int .i64 x.2)], [], []⟩) (fun x => (x.1 < 9223372036854775808 ∧ x.2 < 9223372036854775808) ∧ Nat.gcd x.1 x.2 = Nat.gcd a b) (fun x => x.2) (a, b) ⟨⟨ha, hb⟩, rfl⟩ ⟨⟨rfl, rfl, trivial⟩, rfl, rfl⟩ ?_
  rintro ⟨x, y⟩ ⟨⟨hx, hy⟩, he⟩
  dsimp only at hx hy he ⊢
  repeat' ((conv => whnf); first | refine ngo ?_ | refine VB.tt ?_ | refine VB.ff ?_ | refine VNew.keep ?_ | refine dgo ?_ | refine sgo ?_ | fail)
  conv => whnf
  refine VB.ne (fun h => ?_) (fun h => ?_)
  · have hm := Nat.mod_lt x (show 0 < y by omega)
    have g6 : ((x : Int)).tmod (y : Int) = ((x % y : Nat) : Int) := rfl
    have hg : Nat.gcd y (x % y) = Nat.gcd a b := by rw [← he, Nat.gcd_comm x y, Nat.gcd_rec y x, Nat.gcd_comm]
    generalize x % y = r at *
    repeat' ((conv => whnf); first | refine ngo ?_ | refine VB.tt ?_ | refine VB.ff ?_ | refine VNew.keep ?_ | refine dgo ?_ | refine sgo ?_ | refine ddo ?_ | refine And.intro (Nat.le_of_ble_eq_true rfl) ?_ | (with_reducible apply VB.id; rw [bneI]) | (with_reducible apply VB.id; rw [beqI]) | (with_reducible apply VB.dt; focus omega) | (with_reducible apply VB.df; focus omega) | (with_reducible apply VB.et; focus omega) | (with_reducible apply VB.ef; focus omega) | (with_reducible apply VB.nt; focus omega) | (with_reducible apply VB.nf; focus omega) | fail)
    conv => whnf
    refine ⟨(y, r), ⟨⟨hy, by dsimp only; omega⟩, hg⟩, hm, ⟨⟨rfl, by simp only [lk]; exact congrArg (fun z => some (AV.int .i64 z)) g6, trivial⟩, rfl, rfl⟩⟩
  · obtain rfl : y = 0 := by omega
    rw [Nat.gcd_zero_right] at he
    repeat' ((conv => whnf); first | refine ngo ?_ | refine VB.tt ?_ | refine VB.ff ?_ | refine VNew.keep ?_ | refine dgo ?_ | refine sgo ?_ | refine ddo ?_ | refine And.intro (Nat.le_of_ble_eq_true rfl) ?_ | (with_reducible apply VB.id; rw [bneI]) | (with_reducible apply VB.id; rw [beqI]) | (with_reducible apply VB.dt; focus omega) | (with_reducible apply VB.df; focus omega) | (with_reducible apply VB.et; focus omega) | (with_reducible apply VB.ef; focus omega) | (with_reducible apply VB.nt; focus omega) | (with_reducible apply VB.nf; focus omega) | fail)
    conv => whnf
    rw [(InR.i64 (n := 0 - (x : Int)) (by omega) (by omega)).eq, if_neg (by omega), he]

theorem ratof_c (a : Int) (b : Nat) (a1 : -9223372036854775808 < a) (a2 : a < 9223372036854775808) (hb0 : b ≠ 0) (hb : b < 9223372036854775808) :
    VCall EE 15 [.int .i64 a, .int .i64 b] [] fun v H => Fz H 0 [] v (ratV (mkQ (decide (a < 0)) a.natAbs b)) := by
  refine VCall.of_body true Try.func15 rfl (by decide) rfl ?_
  have hg := gcd_pos_of (n := a.natAbs) hb0
  have hgl := Nat.le_of_dvd (Nat.pos_of_ne_zero hb0) (Nat.gcd_dvd_right a.natAbs b)
  have hmax : (if IntKind.i64.wrap (0 - a) > a then IntKind.i64.wrap (0 - a) else a) = (a.natAbs : Int) := by
    rw [(InR.i64 (n := 0 - a) (by omega) (by omega)).eq]
    split <;> omega
  repeat' ((conv => whnf); first | refine ngo ?_ | refine VB.tt ?_ | refine VB.ff ?_ | refine VNew.keep ?_ | refine dgo ?_ | refine sgo ?_ | refine ddo ?_ | refine And.intro (Nat.le_of_ble_eq_true rfl) ?_ | (with_reducible apply VB.id; rw [bneI]) | (with_reducible apply VB.id; rw [beqI]) | (with_reducible apply VB.dt; focus omega) | (with_reducible apply VB.df; focus omega) | (with_reducible apply VB.et; focus omega) | (with_reducible apply VB.ef; focus omega) | (with_reducible apply VB.nt; focus omega) | (with_reducible apply VB.nf; focus omega) | fail)
  conv => whnf
  rw [hmax]
  refine VCall.sq (kgcd_c a.natAbs b (by omega) (by omega)) ?_
  have hq2 : (a.tdiv ((Nat.gcd a.natAbs b : Nat) : Int)).natAbs = a.natAbs / Nat.gcd a.natAbs b := Int.natAbs_tdiv a _
  have hd : Nat.gcd a.natAbs b ∣ a.natAbs := Nat.gcd_dvd_left _ _
  have hle := Nat.div_le_self a.natAbs (Nat.gcd a.natAbs b)
  have hle2 := Nat.div_le_self b (Nat.gcd a.natAbs b)
  have hsg : (a.tdiv ((Nat.gcd a.natAbs b : Nat) : Int) < 0 ↔ a < 0) := by
    obtain ⟨k, hk⟩ := hd
    have hk0 : a.natAbs / Nat.gcd a.natAbs b = k := by
      conv => lhs; lhs; rw [hk]
      exact Nat.mul_div_cancel_left k (Nat.pos_of_ne_zero hg)
    rw [hk0] at hq2
    rcases Int.lt_or_le a 0 with h | h
    · have hm := Int.tdiv_nonneg (a := -a) (b := ((Nat.gcd a.natAbs b : Nat) : Int)) (by omega) (by omega)
      rw [Int.neg_tdiv] at hm
      have : k ≠ 0 := by rintro rfl; omega
      omega
    · have hm := Int.tdiv_nonneg (a := a) (b := ((Nat.gcd a.natAbs b : Nat) : Int)) h (by omega)
      omega
  have g7 : ((b : Nat) : Int).tdiv ((Nat.gcd a.natAbs b : Nat) : Int) = ((b / Nat.gcd a.natAbs b : Nat) : Int) := rfl
  have hres : ∀ x : Bool, x = decide (a < 0) → ratV (mkQ (decide (a < 0)) a.natAbs b) = .agg [.bool x, natv (a.natAbs / Nat.gcd a.natAbs b), natv (b / Nat.gcd a.natAbs b)] := by
    rintro x rfl
    by_cases ha : a.natAbs = 0
    · have h0 : a = 0 := Int.natAbs_eq_zero.1 ha
      subst h0
      rw [show (0 : Int).natAbs = 0 from rfl, mkQ_zero, ratV_zero, Nat.gcd_zero_left, Nat.zero_div, Nat.div_self (Nat.pos_of_ne_zero hb0)]
      rfl
    · rw [ratV_mkQ hb0 ha]
  generalize hG : Nat.gcd a.natAbs b = g at *
  repeat' ((conv => whnf); first | refine ngo ?_ | refine VB.tt ?_ | refine VB.ff ?_ | refine VNew.keep ?_ | refine dgo ?_ | refine sgo ?_ | refine ddo ?_ | refine And.intro (Nat.le_of_ble_eq_true rfl) ?_ | (with_reducible apply VB.id; rw [bneI]) | (with_reducible apply VB.id; rw [beqI]) | (with_reducible apply VB.dt; focus omega) | (with_reducible apply VB.df; focus omega) | (with_reducible apply VB.et; focus omega) | (with_reducible apply VB.ef; focus omega) | (with_reducible apply VB.nt; focus omega) | (with_reducible apply VB.nf; focus omega) | fail)
  conv => whnf
  rw [g7]
  generalize b / g = B at *
  generalize a.natAbs / g = N at *
  generalize a.tdiv g = A at *
  repeat' ((conv => whnf); first | refine ngo ?_ | refine VB.tt ?_ | refine VB.ff ?_ | refine VNew.keep ?_ | refine dgo ?_ | refine sgo ?_ | refine ddo ?_ | refine And.intro (Nat.le_of_ble_eq_true rfl) ?_ | (with_reducible apply VB.id; rw [bneI]) | (with_reducible apply VB.id; rw [beqI]) | (with_reducible apply VB.dt; focus omega) | (with_reducible apply VB.df; focus omega) | (with_reducible apply VB.et; focus omega) | (with_reducible apply VB.ef; focus omega) | (with_reducible apply VB.nt; focus omega) | (with_reducible apply VB.nf; focus omega) | fail)
  conv => whnf
  refine VB.dec (fun h => ?_) (fun h => ?_)
  · rw [hres true (decide_eq_true (hsg.1 h)).symm]
    repeat' ((conv => whnf); first | refine ngo ?_ | refine VB.tt ?_ | refine VB.ff ?_ | refine VNew.keep ?_ | refine dgo ?_ | refine sgo ?_ | refine ddo ?_ | refine And.intro (Nat.le_of_ble_eq_true rfl) ?_ | (with_reducible apply VB.id; rw [bneI]) | (with_reducible apply VB.id; rw [beqI]) | (with_reducible apply VB.dt; focus omega) | (with_reducible apply VB.df; focus omega) | (with_reducible apply VB.et; focus omega) | (with_reducible apply VB.ef; focus omega) | (with_reducible apply VB.nt; focus omega) | (with_reducible apply VB.nf; focus omega) | fail)
    conv => whnf
    rw [(InR.i64 (n := 0 - A) (by omega) (by omega)).eq, show 0 - A = (N : Int) by omega]
    refine VCall.iq (natof_c N (by omega)) ?_
    repeat' ((conv => whnf); first | refine ngo ?_ | refine VB.tt ?_ | refine VB.ff ?_ | refine VNew.keep ?_ | refine dgo ?_ | refine sgo ?_ | refine ddo ?_ | refine And.intro (Nat.le_of_ble_eq_true rfl) ?_ | (with_reducible apply VB.id; rw [bneI]) | (with_reducible apply VB.id; rw [beqI]) | (with_reducible apply VB.dt; focus omega) | (with_reducible apply VB.df; focus omega) | (with_reducible apply VB.et; focus omega) | (with_reducible apply VB.ef; focus omega) | (with_reducible apply VB.nt; focus omega) | (with_reducible apply VB.nf; focus omega) | fail)
    conv => whnf
    refine VCall.iq (natof_c B (by omega)) ?_
    repeat' ((conv => whnf); first | refine ngo ?_ | refine VB.tt ?_ | refine VB.ff ?_ | refine VNew.keep ?_ | refine dgo ?_ | refine sgo ?_ | refine ddo ?_ | refine And.intro (Nat.le_of_ble_eq_true rfl) ?_ | (with_reducible apply VB.id; rw [bneI]) | (with_reducible apply VB.id; rw [beqI]) | (with_reducible apply VB.dt; focus omega) | (with_reducible apply VB.df; focus omega) | (with_reducible apply VB.et; focus omega) | (with_reducible apply VB.ef; focus omega) | (with_reducible apply VB.nt; focus omega) | (with_reducible apply VB.nf; focus omega) | fail)
    conv => whnf
    exact .same rfl ⟨trivial, low_natv 0 _, low_natv 0 _, trivial⟩
  · rw [hres false (decide_eq_false (fun e => h (hsg.2 e))).symm]
    repeat' ((conv => whnf); first | refine ngo ?_ | refine VB.tt ?_ | refine VB.ff ?_ | refine VNew.keep ?_ | refine dgo ?_ | refine sgo ?_ | refine ddo ?_ | refine And.intro (Nat.le_of_ble_eq_true rfl) ?_ | (with_reducible apply VB.id; rw [bneI]) | (with_reducible apply VB.id; rw [beqI]) | (with_reducible apply VB.dt; focus omega) | (with_reducible apply VB.df; focus omega) | (with_reducible apply VB.et; focus omega) | (with_reducible apply VB.ef; focus omega) | (with_reducible apply VB.nt; focus omega) | (with_reducible apply VB.nf; focus omega) | fail)
    conv => whnf
    rw [show A = (N : Int) by omega]
    refine VCall.iq (natof_c N (by omega)) ?_
    repeat' ((conv => whnf); first | refine ngo ?_ | refine VB.tt ?_ | refine VB.ff ?_ | refine VNew.keep ?_ | refine dgo ?_ | refine sgo ?_ | refine ddo ?_ | refine And.intro (Nat.le_of_ble_eq_true rfl) ?_ | (with_reducible apply VB.id; rw [bneI]) | (with_reducible apply VB.id; rw [beqI]) | (with_reducible apply VB.dt; focus omega) | (with_reducible apply VB.df; focus omega) | (with_reducible apply VB.et; focus omega) | (with_reducible apply VB.ef; focus omega) | (with_reducible apply VB.nt; focus omega) | (with_reducible apply VB.nf; focus omega) | fail)
    conv => whnf
    refine VCall.iq (natof_c B (by omega)) ?_
    repeat' ((conv => whnf); first | refine ngo ?_ | refine VB.tt ?_ | refine VB.ff ?_ | refine VNew.keep ?_ | refine dgo ?_ | refine sgo ?_ | refine ddo ?_ | refine And.intro (Nat.le_of_ble_eq_true rfl) ?_ | (with_reducible apply VB.id; rw [bneI]) | (with_reducible apply VB.id; rw [beqI]) | (with_reducible apply VB.dt; focus omega) | (with_reducible apply VB.df; focus omega) | (with_reducible apply VB.et; focus omega) | (with_reducible apply VB.ef; focus omega) | (with_reducible apply VB.nt; focus omega) | (with_reducible apply VB.nf; focus omega) | fail)
    conv => whnf
    exact .same rfl ⟨trivial, low_natv 0 _, low_natv 0 _, trivial⟩

theorem samerat_same (r : RawQ) (l1 : r.num.length < 1000000000) (l2 : r.den.length < 1000000000) : VCall EE 13 [rawV r, rawV r] [] fun v H => v = .bool true := by
  obtain ⟨neg, num, den⟩ := r
  dsimp only at l1 l2
  have h1 := alike_same num l1
  have h2 := alike_same den l2
  cases neg
  all_goals
    refine VCall.of_body true Try.func13 rfl (by decide) rfl ?_
    repeat' ((conv => whnf); first | refine ngo ?_ | refine VB.tt ?_ | refine VB.ff ?_ | refine VNew.keep ?_ | refine dgo ?_ | refine sgo ?_ | refine ddo ?_ | refine And.intro (Nat.le_of_ble_eq_true rfl) ?_ | (with_reducible apply VB.id; rw [bneI]) | (with_reducible apply VB.id; rw [beqI]) | (with_reducible apply VB.dt; focus omega) | (with_reducible apply VB.df; focus omega) | (with_reducible apply VB.et; focus omega) | (with_reducible apply VB.ef; focus omega) | (with_reducible apply VB.nt; focus omega) | (with_reducible apply VB.nf; focus omega) | fail)
    conv => whnf
    refine VCall.sq (h1) ?_
    repeat' ((conv => whnf); first | refine ngo ?_ | refine VB.tt ?_ | refine VB.ff ?_ | refine VNew.keep ?_ | refine dgo ?_ | refine sgo ?_ | refine ddo ?_ | refine And.intro (Nat.le_of_ble_eq_true rfl) ?_ | (with_reducible apply VB.id; rw [bneI]) | (with_reducible apply VB.id; rw [beqI]) | (with_reducible apply VB.dt; focus omega) | (with_reducible apply VB.df; focus omega) | (with_reducible apply VB.et; focus omega) | (with_reducible apply VB.ef; focus omega) | (with_reducible apply VB.nt; focus omega) | (with_reducible apply VB.nf; focus omega) | fail)
    conv => whnf
    refine VCall.sq (h2) ?_
    repeat' ((conv => whnf); first | refine ngo ?_ | refine VB.tt ?_ | refine VB.ff ?_ | refine VNew.keep ?_ | refine dgo ?_ | refine sgo ?_ | refine ddo ?_ | refine And.intro (Nat.le_of_ble_eq_true rfl) ?_ | (with_reducible apply VB.id; rw [bneI]) | (with_reducible apply VB.id; rw [beqI]) | (with_reducible apply VB.dt; focus omega) | (with_reducible apply VB.df; focus omega) | (with_reducible apply VB.et; focus omega) | (with_reducible apply VB.ef; focus omega) | (with_reducible apply VB.nt; focus omega) | (with_reducible apply VB.nf; focus omega) | fail)
    conv => whnf
end Go.Proofs.Ytoijfbdjlagooaa


/- Contracts: multiples as ints; calls over fractions that are valid. -/
namespace Go.Proofs.Ytoijfbdjlagooaa
open Go Go.RowKit
set_option linter.unusedVariables false
set_option linter.unusedSimpArgs false
set_option maxRecDepth 100000

def fitsI (neg : Bool) (n : Nat) : Prop := if neg = true then n ≤ 9223372036854775808 else n < 9223372036854775808
instance (neg : Bool) (n : Nat) : Decidable (fitsI neg n) := by unfold fitsI; infer_instance
theorem fitsI_true (n : Nat) : fitsI true n ↔ n ≤ 9223372036854775808 := by simp [fitsI]
theorem fitsI_false (n : Nat) : fitsI false n ↔ n < 9223372036854775808 := by simp [fitsI]
theorem fitsI_le {neg : Bool} {n : Nat} (h : fitsI neg n) : n ≤ 9223372036854775808 := by
  cases neg
  · exact Nat.le_of_lt ((fitsI_false n).1 h)
  · exact (fitsI_true n).1 h
def IntIs (neg : Bool) (n : Nat) (v : AV) : Prop := ∃ i : Int, v = .tup [.int .i64 i, .bool (decide (fitsI neg n))] ∧ (fitsI neg n → i = sgn neg n)

theorem intq_c {neg : Bool} {l : List Nat} (hc : canon l) (ll : l.length < 1000000000000) : VCall EE 87 [.bool neg, natL l] [] fun v H => IntIs neg (val l) v := by
  refine VCall.of_body true Try.func87 rfl (by decide) rfl ?_
  have hBB : BB = 1000000000 := rfl
  have big : ¬ val l ≤ 9223372036854775808 → IntIs neg (val l) (.tup [.int .i64 0, .bool false]) := fun h => by
    have hn : ¬ fitsI neg (val l) := fun e => h (fitsI_le e)
    exact ⟨0, by rw [decide_eq_false hn], fun e => absurd e hn⟩
  repeat' ((conv => whnf); first | refine ngo ?_ | refine VB.tt ?_ | refine VB.ff ?_ | refine VNew.keep ?_ | refine dgo ?_ | refine sgo ?_ | fail)
  conv => whnf
  refine VB.dec (fun h => ?_) (fun h => ?_)
  · repeat' ((conv => whnf); first | refine ngo ?_ | refine VB.tt ?_ | refine VB.ff ?_ | refine VNew.keep ?_ | refine dgo ?_ | refine sgo ?_ | fail)
    conv => whnf
    have h1 := hc.ge (by rintro rfl; simp at h)
    have h2 : BB ^ 3 ≤ BB ^ (l.length - 1) := Nat.pow_le_pow_right (by decide) (by omega)
    have h3 : BB ^ 3 = 1000000000000000000000000000 := rfl
    generalize BB ^ (l.length - 1) = p at *
    generalize BB ^ 3 = q at *
    exact big (by omega)
  · repeat' ((conv => whnf); first | refine ngo ?_ | refine VB.tt ?_ | refine VB.ff ?_ | refine VNew.keep ?_ | refine dgo ?_ | refine sgo ?_ | fail)
    conv => whnf
    refine VLoop.ix true (fun i : Nat => ⟨[(0, .bool neg), (1, natL l), (6, .int .u64 (val (l.drop i) : Nat)), (7, .int .i64 (i - 1))], [], []⟩) (fun i => i ≤ l.length ∧ val (l.drop i) ≤ 9223372036854775808) id l.length ⟨Nat.le_refl _, by simp [val]⟩ ⟨⟨rfl, rfl, by simp [lk, val], rfl, trivial⟩, rfl, rfl⟩ ?_
    rintro i ⟨hi, hv⟩
    repeat' ((conv => whnf); first | refine ngo ?_ | refine VB.tt ?_ | refine VB.ff ?_ | refine VNew.keep ?_ | refine dgo ?_ | refine sgo ?_ | fail)
    conv => whnf
    refine VB.dec (fun h => ?_) (fun h => ?_)
    · obtain ⟨i, rfl⟩ : ∃ k, i = k + 1 := ⟨i - 1, by omega⟩
      have ei : (((i + 1 : Nat) : Int) - 1).toNat = i := by omega
      have hs := val_drop_succ (l := l) (i := i) (by omega)
      have hg := val_ge_drop l i
      have hd : l.getD i 0 < 1000000000 := hc.1 _ (by simp [List.getD_eq_getElem?_getD, show i < l.length by omega])
      repeat' ((conv => whnf); first | refine ngo ?_ | refine VB.tt ?_ | refine VB.ff ?_ | refine VNew.keep ?_ | refine dgo ?_ | refine sgo ?_ | fail)
      conv => whnf
      rw [ei, Nat.mul_one, getInt_limbs]
      generalize hgd : l.getD i 0 = d at *
      generalize val (l.drop (i + 1)) = y at *
      repeat' ((conv => whnf); first | refine ngo ?_ | refine VB.tt ?_ | refine VB.ff ?_ | refine VNew.keep ?_ | refine dgo ?_ | refine sgo ?_ | fail)
      conv => whnf
      have e1 : ((9223372036854775808 : Int) - (d : Int)).tdiv 1000000000 = (((9223372036854775808 - d) / 1000000000 : Nat) : Int) := by
        rw [show (9223372036854775808 : Int) - (d : Int) = ((9223372036854775808 - d : Nat) : Int) by omega]
        exact (Int.ofNat_tdiv _ _).symm
      rw [e1]
      rw [hBB] at hs
      repeat' ((conv => whnf); first | refine ngo ?_ | refine VB.tt ?_ | refine VB.ff ?_ | refine VNew.keep ?_ | refine dgo ?_ | refine sgo ?_ | fail)
      conv => whnf
      refine VB.dec (fun h4 => ?_) (fun h4 => ?_)
      · repeat' ((conv => whnf); first | refine ngo ?_ | refine VB.tt ?_ | refine VB.ff ?_ | refine VNew.keep ?_ | refine dgo ?_ | refine sgo ?_ | fail)
        conv => whnf
        exact big (by omega)
      · repeat' ((conv => whnf); first | refine ngo ?_ | refine VB.tt ?_ | refine VB.ff ?_ | refine VNew.keep ?_ | refine dgo ?_ | refine sgo ?_ | fail)
        conv => whnf
        rw [ei, Nat.mul_one, getInt_limbs, hgd]
        repeat' ((conv => whnf); first | refine ngo ?_ | refine VB.tt ?_ | refine VB.ff ?_ | refine VNew.keep ?_ | refine dgo ?_ | refine sgo ?_ | fail)
        conv => whnf
        refine ⟨i, ⟨by omega, by omega⟩, by simp, ⟨⟨rfl, rfl, by simp only [lk]; exact congrArg (fun z => some (AV.int .u64 z)) (by rw [hs]; omega), by simp [lk], trivial⟩, rfl, rfl⟩⟩
    · have : i = 0 := by omega
      subst this
      rw [List.drop_zero] at *
      clear big hc
      generalize val l = z at *
      repeat' ((conv => whnf); first | refine VB.tt ?_ | refine VB.ff ?_ | refine VNew.keep ?_ | refine dgo ?_ | refine sgo ?_ | fail)
      conv => whnf
      cases neg
      · by_cases hz : z = 9223372036854775808
        · subst hz
          refine VNext.at_ false ⟨[(0, .bool false), (6, .int .u64 9223372036854775808)], [], []⟩ ⟨⟨rfl, rfl, trivial⟩, rfl, rfl⟩ ?_
          iterate 6 ((conv => whnf); try (first | refine VB.ff ?_ | refine VNext.go false ?_ | fail))
          conv => whnf
          exact ⟨_, by rw [decide_eq_false (show ¬ fitsI false 9223372036854775808 by rw [fitsI_false]; omega)]; rfl, fun e => absurd ((fitsI_false _).1 e) (by omega)⟩
        · refine VNext.at_ true ⟨[(0, .bool false), (6, .int .u64 z)], [], []⟩ ⟨by (repeat' first | exact trivial | exact And.intro (by first | rfl | (simp [lk]; done)) trivial | refine And.intro (by first | rfl | (simp [lk]; done)) ?_), rfl, rfl⟩ ?_
          repeat' ((conv => whnf); first | refine ngo ?_ | refine VB.tt ?_ | refine VB.ff ?_ | refine VNew.keep ?_ | refine dgo ?_ | refine sgo ?_ | fail)
          conv => whnf
          exact ⟨z, by rw [decide_eq_true (show (z : Int) < 9223372036854775808 by omega), decide_eq_true ((fitsI_false z).2 (by omega))], fun _ => by simp [sgn]⟩
      · refine VNext.at_ false ⟨[(0, .bool true), (6, .int .u64 z)], [], []⟩ ⟨⟨rfl, rfl, trivial⟩, rfl, rfl⟩ ?_
        repeat' ((conv => whnf); first | refine VB.tt ?_ | refine VB.ff ?_ | refine VNew.keep ?_ | refine dgo ?_ | refine sgo ?_ | fail)
        conv => whnf
        rw [decide_eq_true (show (z : Int) ≤ 9223372036854775808 by omega)]
        repeat' ((conv => whnf); first | refine VB.tt ?_ | refine VB.ff ?_ | refine VNew.keep ?_ | refine dgo ?_ | refine sgo ?_ | fail)
        conv => whnf
        refine VNext.go false ?_
        repeat' ((conv => whnf); first | refine VB.tt ?_ | refine VB.ff ?_ | refine VNew.keep ?_ | refine dgo ?_ | refine sgo ?_ | fail)
        conv => whnf
        repeat' ((conv => whnf); first | refine ngo ?_ | refine VB.tt ?_ | refine VB.ff ?_ | refine VNew.keep ?_ | refine dgo ?_ | refine sgo ?_ | fail)
        conv => whnf
        have e : IntKind.i64.wrap (IntKind.u64.wrap (0 - (z : Int))) = -(z : Int) := by
          simp only [IntKind.wrap, IntKind.bits, IntKind.signed, Bool.false_and, Bool.true_and, Bool.false_eq_true, if_false, decide_eq_true_eq, ge_iff_le]
          split <;> omega
        rw [e]
        exact ⟨_, by rw [decide_eq_true ((fitsI_true z).2 hv)], fun _ => by simp [sgn]⟩

/-- A multiple of a number, rounded down, as an int, or which error. -/
def scaV (q : Rat) (n : Int) : Int := (q * (n : Rat)).floor
def scaF (q : Rat) (n : Int) : Prop := -9223372036854775808 ≤ scaV q n ∧ scaV q n < 9223372036854775808
instance (q : Rat) (n : Int) : Decidable (scaF q n) := by unfold scaF; infer_instance
def scaN (r : RawQ) (n : Int) : Int := if chkQ r = 0 ∧ scaF (valQ r) n then scaV (valQ r) n else 0
def scaE (r : RawQ) (n : Int) : Int := if chkQ r = 0 then (if scaF (valQ r) n then 0 else 5) else chkQ r
def scaR (r : RawQ) (n : Int) : AV := .tup [.int .i64 (scaN r n), .int .i64 (scaE r n)]

theorem ratio_whole {n : Int} (h1 : -9223372036854775808 ≤ n) (h2 : n < 9223372036854775808) : VCall EE 49 [.int .i64 n, .int .i64 1] [] fun v H => Fz H 0 [] v (ratV (n : Rat)) := by
  have h := ratio_c (a := n) (b := 1) h1 h2 (by decide) (by decide) (by decide)
  rw [intCast_mkQ]
  have e : (decide (n < 0) != decide ((1 : Int) < 0)) = decide (n < 0) := by cases decide (n < 0) <;> rfl
  rw [e] at h
  exact h
theorem rl_int {n : Int} (h1 : -9223372036854775808 ≤ n) (h2 : n < 9223372036854775808) : rl (n : Rat) ≤ 3 := by
  have h := len_natAbs h1 h2
  have l1 := dg_len_one
  have e : rl (n : Rat) = max (dg n.natAbs).length (dg 1).length := rfl
  omega
theorem fits_floor {m : Int} : fitsI (decide (m < 0)) m.natAbs ↔ (-9223372036854775808 ≤ m ∧ m < 9223372036854775808) := by
  by_cases h : m < 0
  · rw [decide_eq_true h, fitsI_true]; omega
  · rw [decide_eq_false h, fitsI_false]; omega

theorem rl_floor_any (q : Rat) : rl (q.floor : Rat) ≤ rl q + 1 := by
  rw [floor_mkQ]
  have h1 := rl_num q
  have h2 := rl_pos q
  have l1 := dg_len_one
  have h3 := dg_length_mono (Nat.div_le_self q.num.natAbs q.den)
  have h4 := dg_add_le (q.num.natAbs / q.den) 1
  refine rl_mkQ ?_ (by omega) (by decide)
  split <;> omega
theorem qscale_c (r : RawQ) (n : Int) (lr : lenQ r 1000000000000000000) (h1 : -9223372036854775808 ≤ n) (h2 : n < 9223372036854775808) : VCall EE 44 [rawV r, .int .i64 n] [] fun v H => v = scaR r n := by
  refine VCall.of_body true Try.func44 rfl (by decide) rfl ?_
  repeat' ((conv => whnf); first | refine ngo ?_ | refine VB.tt ?_ | refine VB.ff ?_ | refine VNew.keep ?_ | refine dgo ?_ | refine sgo ?_ | refine ddo ?_ | refine And.intro (Nat.le_of_ble_eq_true rfl) ?_ | (with_reducible apply VB.id; rw [bneI]) | (with_reducible apply VB.id; rw [beqI]) | (with_reducible apply VB.dt; focus omega) | (with_reducible apply VB.df; focus omega) | (with_reducible apply VB.et; focus omega) | (with_reducible apply VB.ef; focus omega) | (with_reducible apply VB.nt; focus omega) | (with_reducible apply VB.nf; focus omega) | fail)
  conv => whnf
  refine VCall.sq (qcheck_raw lr.1 lr.2) ?_
  repeat' ((conv => whnf); first | refine ngo ?_ | refine VB.tt ?_ | refine VB.ff ?_ | refine VNew.keep ?_ | refine dgo ?_ | refine sgo ?_ | refine ddo ?_ | refine And.intro (Nat.le_of_ble_eq_true rfl) ?_ | (with_reducible apply VB.id; rw [bneI]) | (with_reducible apply VB.id; rw [beqI]) | (with_reducible apply VB.dt; focus omega) | (with_reducible apply VB.df; focus omega) | (with_reducible apply VB.et; focus omega) | (with_reducible apply VB.ef; focus omega) | (with_reducible apply VB.nt; focus omega) | (with_reducible apply VB.nf; focus omega) | fail)
  conv => whnf
  refine VB.ne (fun h => ?_) (fun h => ?_)
  · repeat' ((conv => whnf); first | refine ngo ?_ | refine VB.tt ?_ | refine VB.ff ?_ | refine VNew.keep ?_ | refine dgo ?_ | refine sgo ?_ | refine ddo ?_ | refine And.intro (Nat.le_of_ble_eq_true rfl) ?_ | (with_reducible apply VB.id; rw [bneI]) | (with_reducible apply VB.id; rw [beqI]) | (with_reducible apply VB.dt; focus omega) | (with_reducible apply VB.df; focus omega) | (with_reducible apply VB.et; focus omega) | (with_reducible apply VB.ef; focus omega) | (with_reducible apply VB.nt; focus omega) | (with_reducible apply VB.nf; focus omega) | fail)
    conv => whnf
    rw [scaR, scaN, scaE, if_neg h, if_neg (fun e => h e.1)]
  · have h : chkQ r = 0 := h
    obtain ⟨e1, l1, _⟩ := chkQ_zero (r := r) h
    have ln := rl_int h1 h2
    have lm := rl_mul (valQ r) (n : Rat)
    repeat' ((conv => whnf); first | refine ngo ?_ | refine VB.tt ?_ | refine VB.ff ?_ | refine VNew.keep ?_ | refine dgo ?_ | refine sgo ?_ | refine ddo ?_ | refine And.intro (Nat.le_of_ble_eq_true rfl) ?_ | (with_reducible apply VB.id; rw [bneI]) | (with_reducible apply VB.id; rw [beqI]) | (with_reducible apply VB.dt; focus omega) | (with_reducible apply VB.df; focus omega) | (with_reducible apply VB.et; focus omega) | (with_reducible apply VB.ef; focus omega) | (with_reducible apply VB.nt; focus omega) | (with_reducible apply VB.nf; focus omega) | fail)
    conv => whnf
    refine VIso.iq (ratio_whole h1 h2) ?_
    repeat' ((conv => whnf); first | refine ngo ?_ | refine VB.tt ?_ | refine VB.ff ?_ | refine VNew.keep ?_ | refine dgo ?_ | refine sgo ?_ | refine ddo ?_ | refine And.intro (Nat.le_of_ble_eq_true rfl) ?_ | (with_reducible apply VB.id; rw [bneI]) | (with_reducible apply VB.id; rw [beqI]) | (with_reducible apply VB.dt; focus omega) | (with_reducible apply VB.df; focus omega) | (with_reducible apply VB.et; focus omega) | (with_reducible apply VB.ef; focus omega) | (with_reducible apply VB.nt; focus omega) | (with_reducible apply VB.nf; focus omega) | fail)
    conv => whnf
    show VIso EE _ [rawV r, ratV (n : Rat)] _
    rw [e1]
    refine VIso.iq (times_c (valQ r) (n : Rat) (by omega)) ?_
    repeat' ((conv => whnf); first | refine ngo ?_ | refine VB.tt ?_ | refine VB.ff ?_ | refine VNew.keep ?_ | refine dgo ?_ | refine sgo ?_ | refine ddo ?_ | refine And.intro (Nat.le_of_ble_eq_true rfl) ?_ | (with_reducible apply VB.id; rw [bneI]) | (with_reducible apply VB.id; rw [beqI]) | (with_reducible apply VB.dt; focus omega) | (with_reducible apply VB.df; focus omega) | (with_reducible apply VB.et; focus omega) | (with_reducible apply VB.ef; focus omega) | (with_reducible apply VB.nt; focus omega) | (with_reducible apply VB.nf; focus omega) | fail)
    conv => whnf
    refine VIso.iq (down_c (valQ r * (n : Rat)) (by omega)) ?_
    have hm : scaV (valQ r) n = (valQ r * (n : Rat)).floor := rfl
    have lf := rl_floor_any (valQ r * (n : Rat))
    rw [← hm] at lf ⊢
    have hI := intq_c (neg := decide (scaV (valQ r) n < 0)) (l := dg (scaV (valQ r) n).natAbs) (canon_dg _) (by
      have := rl_num ((scaV (valQ r) n : Int) : Rat)
      rw [Rat.num_intCast] at this
      omega)
    rw [val_dg] at hI
    have hff := fits_floor (m := scaV (valQ r) n)
    have hsg : sgn (decide (scaV (valQ r) n < 0)) (scaV (valQ r) n).natAbs = scaV (valQ r) n := by
      have := sgn_num ((scaV (valQ r) n : Int) : Rat)
      rwa [Rat.num_intCast] at this
    have hN : scaR r n = .tup [.int .i64 (if scaF (valQ r) n then scaV (valQ r) n else 0), .int .i64 (if scaF (valQ r) n then 0 else 5)] := by
      rw [scaR, scaN, scaE, if_pos h]
      by_cases hf : scaF (valQ r) n
      · rw [if_pos ⟨h, hf⟩, if_pos hf, if_pos hf]
      · rw [if_neg (fun e => hf e.2), if_neg hf, if_neg hf]
    rw [hN]
    have hfd : scaF (valQ r) n ↔ (-9223372036854775808 ≤ scaV (valQ r) n ∧ scaV (valQ r) n < 9223372036854775808) := Iff.rfl
    generalize scaV (valQ r) n = m at *
    repeat' ((conv => whnf); first | refine ngo ?_ | refine VB.tt ?_ | refine VB.ff ?_ | refine VNew.keep ?_ | refine dgo ?_ | refine sgo ?_ | refine ddo ?_ | refine And.intro (Nat.le_of_ble_eq_true rfl) ?_ | (with_reducible apply VB.id; rw [bneI]) | (with_reducible apply VB.id; rw [beqI]) | (with_reducible apply VB.dt; focus omega) | (with_reducible apply VB.df; focus omega) | (with_reducible apply VB.et; focus omega) | (with_reducible apply VB.ef; focus omega) | (with_reducible apply VB.nt; focus omega) | (with_reducible apply VB.nf; focus omega) | fail)
    conv => whnf
    refine VCall.isolate hI ⟨trivial, low_natv 0 _, trivial⟩ fun v0 H0 hv => ?_
    obtain ⟨i, rfl, hi⟩ := hv
    refine ⟨_, .same rfl ⟨trivial, trivial, trivial⟩, ?_⟩
    by_cases hf : fitsI (decide (m < 0)) m.natAbs
    · rw [decide_eq_true hf]
      repeat' ((conv => whnf); first | refine ngo ?_ | refine VB.tt ?_ | refine VB.ff ?_ | refine VNew.keep ?_ | refine dgo ?_ | refine sgo ?_ | refine ddo ?_ | refine And.intro (Nat.le_of_ble_eq_true rfl) ?_ | (with_reducible apply VB.id; rw [bneI]) | (with_reducible apply VB.id; rw [beqI]) | (with_reducible apply VB.dt; focus omega) | (with_reducible apply VB.df; focus omega) | (with_reducible apply VB.et; focus omega) | (with_reducible apply VB.ef; focus omega) | (with_reducible apply VB.nt; focus omega) | (with_reducible apply VB.nf; focus omega) | fail)
      conv => whnf
      rw [if_pos (hfd.2 (hff.1 hf)), if_pos (hfd.2 (hff.1 hf)), hi hf, hsg]
    · rw [decide_eq_false hf]
      repeat' ((conv => whnf); first | refine ngo ?_ | refine VB.tt ?_ | refine VB.ff ?_ | refine VNew.keep ?_ | refine dgo ?_ | refine sgo ?_ | refine ddo ?_ | refine And.intro (Nat.le_of_ble_eq_true rfl) ?_ | (with_reducible apply VB.id; rw [bneI]) | (with_reducible apply VB.id; rw [beqI]) | (with_reducible apply VB.dt; focus omega) | (with_reducible apply VB.df; focus omega) | (with_reducible apply VB.et; focus omega) | (with_reducible apply VB.ef; focus omega) | (with_reducible apply VB.nt; focus omega) | (with_reducible apply VB.nf; focus omega) | fail)
      conv => whnf
      rw [if_neg (fun e => hf (hff.2 (hfd.1 e))), if_neg (fun e => hf (hff.2 (hfd.1 e)))]
end Go.Proofs.Ytoijfbdjlagooaa


/- Contracts: calls over fractions that are valid; the law's own helpers; the law RatSimples. -/
namespace Go.Proofs.Ytoijfbdjlagooaa
open Go Go.RowKit
set_option linter.unusedVariables false
set_option linter.unusedSimpArgs false
set_option maxRecDepth 100000

theorem chkQ_rq {q : Rat} (h : rl q ≤ 1024) : chkQ (rq q) = 0 ∧ valQ (rq q) = q := by
  have h1 := rl_num q
  have h2 := rl_den q
  have hd : dg q.den ≠ [] := fun e => q.den_nz (dg_eq_nil.1 e)
  have hp : partsQ (dg q.num.natAbs) (dg q.den) = 0 := by rw [partsQ, if_pos (chk_dg (by omega)), if_pos (chk_dg (by omega)), if_neg hd]
  refine ⟨?_, ?_⟩
  · show (if partsQ (dg q.num.natAbs) (dg q.den) = 0 then (if Nat.gcd (val (dg q.num.natAbs)) (val (dg q.den)) = 1 ∧ (decide (q.num < 0) = true → dg q.num.natAbs ≠ []) then (0 : Int) else 3) else partsQ (dg q.num.natAbs) (dg q.den)) = 0
    rw [if_pos hp, if_pos]
    refine ⟨by rw [val_dg, val_dg]; exact q.reduced, fun hn e => ?_⟩
    have := dg_eq_nil.1 e
    have := of_decide_eq_true hn
    omega
  · show mkQ (decide (q.num < 0)) (val (dg q.num.natAbs)) (val (dg q.den)) = q
    rw [val_dg, val_dg, mkQ_self]
theorem bothQ_rq {a b : Rat} (la : rl a ≤ 1024) (lb : rl b ≤ 1024) : bothQ (rq a) (rq b) = 0 := by rw [bothQ, if_pos (chkQ_rq la).1, (chkQ_rq lb).1]
theorem lenQ_rq {q : Rat} (h : rl q ≤ 1024) : lenQ (rq q) 1000000000000000000 := by
  have h1 := rl_num q
  have h2 := rl_den q
  exact ⟨show (dg q.num.natAbs).length < _ by omega, show (dg q.den).length < _ by omega⟩
/-- A fraction that is valid, and no error. -/
def okQ (q : Rat) : AV := .tup [ratV q, .int .i64 0]
theorem opQ_rq {a b : Rat} (la : rl a ≤ 1024) (lb : rl b ≤ 1024) {e : Int} {q : Rat} (he : e = 0) : opQ (rq a) (rq b) e q = okQ q := by
  rw [opQ_zero (bothQ_rq la lb), outQ, outR, if_pos he, he]
  rfl
theorem qadd_n {a b : Rat} (la : rl a ≤ 1024) (lb : rl b ≤ 1024) (h : rl (a + b) ≤ 1024) : VCall EE 21 [ratV a, ratV b] [] fun v H => Fz H 0 [] v (okQ (a + b)) := by
  have hq := qadd_c (rq a) (rq b) (lenQ_rq la) (lenQ_rq lb)
  rw [(chkQ_rq la).2, (chkQ_rq lb).2, opQ_rq la lb (ovf_small h)] at hq
  exact hq
theorem qmul_n {a b : Rat} (la : rl a ≤ 1024) (lb : rl b ≤ 1024) (h : rl (a * b) ≤ 1024) : VCall EE 25 [ratV a, ratV b] [] fun v H => Fz H 0 [] v (okQ (a * b)) := by
  have hq := qmul_c (rq a) (rq b) (lenQ_rq la) (lenQ_rq lb)
  rw [(chkQ_rq la).2, (chkQ_rq lb).2, opQ_rq la lb (ovf_small h)] at hq
  exact hq
theorem qsub_n {a b : Rat} (la : rl a ≤ 1024) (lb : rl b ≤ 1024) (h : rl (a + -b) ≤ 1024) : VCall EE 23 [ratV a, ratV b] [] fun v H => Fz H 0 [] v (okQ (a + -b)) := by
  have hq := qsub_c (rq a) (rq b) (lenQ_rq la) (lenQ_rq lb)
  rw [(chkQ_rq la).2, (chkQ_rq lb).2, opQ_rq la lb (ovf_small h)] at hq
  exact hq
theorem qsimple_n {a b : Rat} (la : rl a ≤ 1024) (lb : rl b ≤ 1024) (hle : a ≤ b) : VCall EE 11 [ratV a, ratV b] [] fun v H => Fz H 0 [] v (okQ (simG a b)) := by
  have hq := qsimple_c (rq a) (rq b) (lenQ_rq la) (lenQ_rq lb)
  rw [(chkQ_rq la).2, (chkQ_rq lb).2, opQ_rq la lb (by rw [simE, if_neg (Rat.not_lt.2 hle)]; exact ovf_small (rl_simG hle la lb))] at hq
  exact hq
theorem qcmp_n {a b : Rat} (la : rl a ≤ 1024) (lb : rl b ≤ 1024) : VCall EE 17 [ratV a, ratV b] [] fun v H => v = .tup [.int .i64 (cmpQ a b), .int .i64 0] := by
  have hq := qcmp_c (rq a) (rq b) (lenQ_rq la) (lenQ_rq lb)
  rw [(chkQ_rq la).2, (chkQ_rq lb).2, outC, bothQ_rq la lb, if_pos rfl] at hq
  exact hq
theorem qscale_n {a : Rat} {n : Int} (la : rl a ≤ 1024) (h1 : -9223372036854775808 ≤ n) (h2 : n < 9223372036854775808) (hf : scaF a n) : VCall EE 44 [ratV a, .int .i64 n] [] fun v H => v = .tup [.int .i64 (scaV a n), .int .i64 0] := by
  have hq := qscale_c (rq a) n (lenQ_rq la) h1 h2
  have hc := chkQ_rq la
  rw [scaR, scaN, scaE, hc.2, if_pos ⟨hc.1, hf⟩, if_pos hc.1, if_pos hf] at hq
  exact hq

theorem mkQ_rat (a : Int) (b : Nat) : mkQ (decide (a < 0)) a.natAbs b = mkRat a b := by
  have : sgn (decide (a < 0)) a.natAbs = a := by
    have := sgn_num (a : Rat)
    rwa [Rat.num_intCast] at this
  rw [mkQ, this]
theorem rl_mkRat {a : Int} {b : Nat} (a1 : -9223372036854775808 < a) (a2 : a < 9223372036854775808) (hb0 : b ≠ 0) (hb : b < 9223372036854775808) : rl (mkRat a b) ≤ 3 := by
  rw [← mkQ_rat]
  exact rl_mkQ (len_natAbs (by omega) a2) (length_dg_lt (Nat.lt_of_lt_of_le hb (by decide))) hb0
theorem of_q (a : Int) (b : Nat) (a1 : -9223372036854775808 < a) (a2 : a < 9223372036854775808) (hb0 : b ≠ 0) (hb : b < 9223372036854775808) : VCall EE 18 [.int .i64 a, .int .i64 b] [] fun v H => Fz H 0 [] v (ratV (mkRat a b)) := by
  refine VCall.of_body true Try.func18 rfl (by decide) rfl ?_
  have h := ratof_c a b a1 a2 hb0 hb
  rw [mkQ_rat] at h
  repeat' ((conv => whnf); first | refine ngo ?_ | refine VB.tt ?_ | refine VB.ff ?_ | refine VNew.keep ?_ | refine dgo ?_ | refine sgo ?_ | refine ddo ?_ | refine And.intro (Nat.le_of_ble_eq_true rfl) ?_ | ((with_reducible apply VB.id); rw [bneI]) | ((with_reducible apply VB.id); rw [beqI]) | ((with_reducible apply VB.dt); focus omega) | ((with_reducible apply VB.df); focus omega) | ((with_reducible apply VB.et); focus omega) | ((with_reducible apply VB.ef); focus omega) | ((with_reducible apply VB.nt); focus omega) | ((with_reducible apply VB.nf); focus omega) | fail)
  conv => whnf
  refine VCall.iq (h) ?_
  repeat' ((conv => whnf); first | refine ngo ?_ | refine VB.tt ?_ | refine VB.ff ?_ | refine VNew.keep ?_ | refine dgo ?_ | refine sgo ?_ | refine ddo ?_ | refine And.intro (Nat.le_of_ble_eq_true rfl) ?_ | ((with_reducible apply VB.id); rw [bneI]) | ((with_reducible apply VB.id); rw [beqI]) | ((with_reducible apply VB.dt); focus omega) | ((with_reducible apply VB.df); focus omega) | ((with_reducible apply VB.et); focus omega) | ((with_reducible apply VB.ef); focus omega) | ((with_reducible apply VB.nt); focus omega) | ((with_reducible apply VB.nf); focus omega) | fail)
  conv => whnf
  exact .same rfl (low_ratV 0 _)
theorem samerat_q {q : Rat} (h : rl q < 1000000000) : VCall EE 13 [ratV q, ratV q] [] fun v H => v = .bool true := by
  have h1 := rl_num q
  have h2 := rl_den q
  exact samerat_same (rq q) (show (dg q.num.natAbs).length < _ by omega) (show (dg q.den).length < _ by omega)
theorem isq_same (a : Int) (b : Nat) (a1 : -9223372036854775808 < a) (a2 : a < 9223372036854775808) (hb0 : b ≠ 0) (hb : b < 9223372036854775808) : VCall EE 46 [ratV (mkRat a b), .int .i64 0, .int .i64 a, .int .i64 b] [] fun v H => v = .bool true := by
  refine VCall.of_body true Try.func46 rfl (by decide) rfl ?_
  have h := rl_mkRat a1 a2 hb0 hb
  repeat' ((conv => whnf); first | refine ngo ?_ | refine VB.tt ?_ | refine VB.ff ?_ | refine VNew.keep ?_ | refine dgo ?_ | refine sgo ?_ | refine ddo ?_ | refine And.intro (Nat.le_of_ble_eq_true rfl) ?_ | ((with_reducible apply VB.id); rw [bneI]) | ((with_reducible apply VB.id); rw [beqI]) | ((with_reducible apply VB.dt); focus omega) | ((with_reducible apply VB.df); focus omega) | ((with_reducible apply VB.et); focus omega) | ((with_reducible apply VB.ef); focus omega) | ((with_reducible apply VB.nt); focus omega) | ((with_reducible apply VB.nf); focus omega) | fail)
  conv => whnf
  refine VIso.iq (of_q a b a1 a2 hb0 hb) ?_
  repeat' ((conv => whnf); first | refine ngo ?_ | refine VB.tt ?_ | refine VB.ff ?_ | refine VNew.keep ?_ | refine dgo ?_ | refine sgo ?_ | refine ddo ?_ | refine And.intro (Nat.le_of_ble_eq_true rfl) ?_ | ((with_reducible apply VB.id); rw [bneI]) | ((with_reducible apply VB.id); rw [beqI]) | ((with_reducible apply VB.dt); focus omega) | ((with_reducible apply VB.df); focus omega) | ((with_reducible apply VB.et); focus omega) | ((with_reducible apply VB.ef); focus omega) | ((with_reducible apply VB.nt); focus omega) | ((with_reducible apply VB.nf); focus omega) | fail)
  conv => whnf
  refine VIso.sq (samerat_q (q := mkRat a b) (by omega)) ?_
  repeat' ((conv => whnf); first | refine ngo ?_ | refine VB.tt ?_ | refine VB.ff ?_ | refine VNew.keep ?_ | refine dgo ?_ | refine sgo ?_ | refine ddo ?_ | refine And.intro (Nat.le_of_ble_eq_true rfl) ?_ | ((with_reducible apply VB.id); rw [bneI]) | ((with_reducible apply VB.id); rw [beqI]) | ((with_reducible apply VB.dt); focus omega) | ((with_reducible apply VB.df); focus omega) | ((with_reducible apply VB.et); focus omega) | ((with_reducible apply VB.ef); focus omega) | ((with_reducible apply VB.nt); focus omega) | ((with_reducible apply VB.nf); focus omega) | fail)
  conv => whnf

theorem simG_lit : simG (mkRat 1 3) (mkRat 1 2) = mkRat 1 2 := by
  have h13 : mkRat 1 3 ≤ mkRat 1 2 := by rw [Rat.le_iff, Rat.num_mkRat, Rat.num_mkRat, Rat.den_mkRat, Rat.den_mkRat]; decide
  have h0 : 0 < mkRat 1 3 := by rw [Rat.lt_iff, Rat.num_mkRat, Rat.den_mkRat]; decide
  rw [simG, if_pos h0]
  have ok := simpQ_ok ((mkRat 1 3).den + (mkRat 1 2).den) h0 h13 (Nat.le_refl _)
  generalize simpQ ((mkRat 1 3).den + (mkRat 1 2).den) (mkRat 1 3) (mkRat 1 2) = r at *
  have hp : 0 < r := by have := ok.ge; grind
  have hn := num_pos hp
  have h1 := ok.num _ h13 Rat.le_refl
  have h2 := ok.den _ h13 Rat.le_refl
  have h3 := (Rat.le_iff _ _).1 ok.le
  have n2 : (mkRat 1 2).num = 1 := by rw [Rat.num_mkRat]; decide
  have d2 : (mkRat 1 2).den = 2 := by rw [Rat.den_mkRat]; decide
  rw [n2] at h1 h3
  rw [d2] at h2 h3
  have hn1 : r.num = 1 := by omega
  have hd2 : r.den = 2 := by rw [hn1] at h3; omega
  rw [← Rat.mkRat_self r, hn1, hd2]
theorem sca_lit : scaV (mkRat (-1) 3) 100 = -34 := by
  have : mkRat (-1) 3 * ((100 : Int) : Rat) = mkRat (-100) 3 := by
    have e : ((100 : Int) : Rat) = mkRat 100 1 := by rw [← Rat.mkRat_self ((100 : Int) : Rat)]; rfl
    rw [e, Rat.mkRat_mul_mkRat]
    rfl
  rw [scaV, this, Rat.floor_def, Rat.num_mkRat, Rat.den_mkRat]
  decide

set_option maxHeartbeats 1000000 in
theorem qawake_c : VCall EE 10 [] [] fun v H => v = .bool true := by
  refine VCall.of_body true Try.func10 rfl (by decide) rfl ?_
  have o12 := of_q 1 2 (by decide) (by decide) (by decide) (by decide)
  have o13 := of_q 1 3 (by decide) (by decide) (by decide) (by decide)
  have o23 := of_q 2 3 (by decide) (by decide) (by decide) (by decide)
  have o34 := of_q (-3) 4 (by decide) (by decide) (by decide) (by decide)
  have o13' := of_q (-1) 3 (by decide) (by decide) (by decide) (by decide)
  have l : ∀ (a : Int) (b : Nat), -9223372036854775808 < a → a < 9223372036854775808 → b ≠ 0 → b < 9223372036854775808 → rl (mkRat a b) ≤ 1024 := fun a b h1 h2 h3 h4 => Nat.le_trans (rl_mkRat h1 h2 h3 h4) (by decide)
  have es : mkRat 1 2 + mkRat 1 3 = mkRat 5 6 := by rw [Rat.mkRat_add_mkRat _ _ (by decide) (by decide)]; rfl
  have em : mkRat 2 3 * mkRat (-3) 4 = mkRat (-1) 2 := by rw [Rat.mkRat_mul_mkRat, Rat.mkRat_eq_iff (by decide) (by decide)]; decide
  have c1 := qadd_n (a := mkRat 1 2) (b := mkRat 1 3) (l _ _ (by decide) (by decide) (by decide) (by decide)) (l _ _ (by decide) (by decide) (by decide) (by decide)) (by rw [es]; exact l _ _ (by decide) (by decide) (by decide) (by decide))
  have c2 := qmul_n (a := mkRat 2 3) (b := mkRat (-3) 4) (l _ _ (by decide) (by decide) (by decide) (by decide)) (l _ _ (by decide) (by decide) (by decide) (by decide)) (by rw [em]; exact l _ _ (by decide) (by decide) (by decide) (by decide))
  have c3 := qsimple_n (a := mkRat 1 3) (b := mkRat 1 2) (l _ _ (by decide) (by decide) (by decide) (by decide)) (l _ _ (by decide) (by decide) (by decide) (by decide)) (by rw [Rat.le_iff, Rat.num_mkRat, Rat.num_mkRat, Rat.den_mkRat, Rat.den_mkRat]; decide)
  have c4 := qscale_n (a := mkRat (-1) 3) (n := 100) (l _ _ (by decide) (by decide) (by decide) (by decide)) (by decide) (by decide) (by rw [scaF, sca_lit]; decide)
  rw [es] at c1
  rw [em] at c2
  rw [simG_lit] at c3
  rw [sca_lit] at c4
  have i1 := isq_same 5 6 (by decide) (by decide) (by decide) (by decide)
  have i2 := isq_same (-1) 2 (by decide) (by decide) (by decide) (by decide)
  have i3 := isq_same 1 2 (by decide) (by decide) (by decide) (by decide)
  repeat' ((conv => whnf); first | refine ngo ?_ | refine VB.tt ?_ | refine VB.ff ?_ | refine VNew.keep ?_ | refine dgo ?_ | refine sgo ?_ | refine ddo ?_ | refine And.intro (Nat.le_of_ble_eq_true rfl) ?_ | ((with_reducible apply VB.id); rw [bneI]) | ((with_reducible apply VB.id); rw [beqI]) | ((with_reducible apply VB.dt); focus omega) | ((with_reducible apply VB.df); focus omega) | ((with_reducible apply VB.et); focus omega) | ((with_reducible apply VB.ef); focus omega) | ((with_reducible apply VB.nt); focus omega) | ((with_reducible apply VB.nf); focus omega) | fail)
  conv => whnf
  refine VCall.iq (o12) ?_
  repeat' ((conv => whnf); first | refine ngo ?_ | refine VB.tt ?_ | refine VB.ff ?_ | refine VNew.keep ?_ | refine dgo ?_ | refine sgo ?_ | refine ddo ?_ | refine And.intro (Nat.le_of_ble_eq_true rfl) ?_ | ((with_reducible apply VB.id); rw [bneI]) | ((with_reducible apply VB.id); rw [beqI]) | ((with_reducible apply VB.dt); focus omega) | ((with_reducible apply VB.df); focus omega) | ((with_reducible apply VB.et); focus omega) | ((with_reducible apply VB.ef); focus omega) | ((with_reducible apply VB.nt); focus omega) | ((with_reducible apply VB.nf); focus omega) | fail)
  conv => whnf
  refine VCall.iq (o13) ?_
  repeat' ((conv => whnf); first | refine ngo ?_ | refine VB.tt ?_ | refine VB.ff ?_ | refine VNew.keep ?_ | refine dgo ?_ | refine sgo ?_ | refine ddo ?_ | refine And.intro (Nat.le_of_ble_eq_true rfl) ?_ | ((with_reducible apply VB.id); rw [bneI]) | ((with_reducible apply VB.id); rw [beqI]) | ((with_reducible apply VB.dt); focus omega) | ((with_reducible apply VB.df); focus omega) | ((with_reducible apply VB.et); focus omega) | ((with_reducible apply VB.ef); focus omega) | ((with_reducible apply VB.nt); focus omega) | ((with_reducible apply VB.nf); focus omega) | fail)
  conv => whnf
  refine VCall.iq (c1) ?_
  repeat' ((conv => whnf); first | refine ngo ?_ | refine VB.tt ?_ | refine VB.ff ?_ | refine VNew.keep ?_ | refine dgo ?_ | refine sgo ?_ | refine ddo ?_ | refine And.intro (Nat.le_of_ble_eq_true rfl) ?_ | ((with_reducible apply VB.id); rw [bneI]) | ((with_reducible apply VB.id); rw [beqI]) | ((with_reducible apply VB.dt); focus omega) | ((with_reducible apply VB.df); focus omega) | ((with_reducible apply VB.et); focus omega) | ((with_reducible apply VB.ef); focus omega) | ((with_reducible apply VB.nt); focus omega) | ((with_reducible apply VB.nf); focus omega) | fail)
  conv => whnf
  refine VCall.iq (o23) ?_
  repeat' ((conv => whnf); first | refine ngo ?_ | refine VB.tt ?_ | refine VB.ff ?_ | refine VNew.keep ?_ | refine dgo ?_ | refine sgo ?_ | refine ddo ?_ | refine And.intro (Nat.le_of_ble_eq_true rfl) ?_ | ((with_reducible apply VB.id); rw [bneI]) | ((with_reducible apply VB.id); rw [beqI]) | ((with_reducible apply VB.dt); focus omega) | ((with_reducible apply VB.df); focus omega) | ((with_reducible apply VB.et); focus omega) | ((with_reducible apply VB.ef); focus omega) | ((with_reducible apply VB.nt); focus omega) | ((with_reducible apply VB.nf); focus omega) | fail)
  conv => whnf
  refine VCall.iq (o34) ?_
  repeat' ((conv => whnf); first | refine ngo ?_ | refine VB.tt ?_ | refine VB.ff ?_ | refine VNew.keep ?_ | refine dgo ?_ | refine sgo ?_ | refine ddo ?_ | refine And.intro (Nat.le_of_ble_eq_true rfl) ?_ | ((with_reducible apply VB.id); rw [bneI]) | ((with_reducible apply VB.id); rw [beqI]) | ((with_reducible apply VB.dt); focus omega) | ((with_reducible apply VB.df); focus omega) | ((with_reducible apply VB.et); focus omega) | ((with_reducible apply VB.ef); focus omega) | ((with_reducible apply VB.nt); focus omega) | ((with_reducible apply VB.nf); focus omega) | fail)
  conv => whnf
  refine VCall.iq (c2) ?_
  repeat' ((conv => whnf); first | refine ngo ?_ | refine VB.tt ?_ | refine VB.ff ?_ | refine VNew.keep ?_ | refine dgo ?_ | refine sgo ?_ | refine ddo ?_ | refine And.intro (Nat.le_of_ble_eq_true rfl) ?_ | ((with_reducible apply VB.id); rw [bneI]) | ((with_reducible apply VB.id); rw [beqI]) | ((with_reducible apply VB.dt); focus omega) | ((with_reducible apply VB.df); focus omega) | ((with_reducible apply VB.et); focus omega) | ((with_reducible apply VB.ef); focus omega) | ((with_reducible apply VB.nt); focus omega) | ((with_reducible apply VB.nf); focus omega) | fail)
  conv => whnf
  refine VCall.iq (o13) ?_
  repeat' ((conv => whnf); first | refine ngo ?_ | refine VB.tt ?_ | refine VB.ff ?_ | refine VNew.keep ?_ | refine dgo ?_ | refine sgo ?_ | refine ddo ?_ | refine And.intro (Nat.le_of_ble_eq_true rfl) ?_ | ((with_reducible apply VB.id); rw [bneI]) | ((with_reducible apply VB.id); rw [beqI]) | ((with_reducible apply VB.dt); focus omega) | ((with_reducible apply VB.df); focus omega) | ((with_reducible apply VB.et); focus omega) | ((with_reducible apply VB.ef); focus omega) | ((with_reducible apply VB.nt); focus omega) | ((with_reducible apply VB.nf); focus omega) | fail)
  conv => whnf
  refine VCall.iq (o12) ?_
  repeat' ((conv => whnf); first | refine ngo ?_ | refine VB.tt ?_ | refine VB.ff ?_ | refine VNew.keep ?_ | refine dgo ?_ | refine sgo ?_ | refine ddo ?_ | refine And.intro (Nat.le_of_ble_eq_true rfl) ?_ | ((with_reducible apply VB.id); rw [bneI]) | ((with_reducible apply VB.id); rw [beqI]) | ((with_reducible apply VB.dt); focus omega) | ((with_reducible apply VB.df); focus omega) | ((with_reducible apply VB.et); focus omega) | ((with_reducible apply VB.ef); focus omega) | ((with_reducible apply VB.nt); focus omega) | ((with_reducible apply VB.nf); focus omega) | fail)
  conv => whnf
  refine VCall.iq (c3) ?_
  repeat' ((conv => whnf); first | refine ngo ?_ | refine VB.tt ?_ | refine VB.ff ?_ | refine VNew.keep ?_ | refine dgo ?_ | refine sgo ?_ | refine ddo ?_ | refine And.intro (Nat.le_of_ble_eq_true rfl) ?_ | ((with_reducible apply VB.id); rw [bneI]) | ((with_reducible apply VB.id); rw [beqI]) | ((with_reducible apply VB.dt); focus omega) | ((with_reducible apply VB.df); focus omega) | ((with_reducible apply VB.et); focus omega) | ((with_reducible apply VB.ef); focus omega) | ((with_reducible apply VB.nt); focus omega) | ((with_reducible apply VB.nf); focus omega) | fail)
  conv => whnf
  refine VCall.iq (o13') ?_
  repeat' ((conv => whnf); first | refine ngo ?_ | refine VB.tt ?_ | refine VB.ff ?_ | refine VNew.keep ?_ | refine dgo ?_ | refine sgo ?_ | refine ddo ?_ | refine And.intro (Nat.le_of_ble_eq_true rfl) ?_ | ((with_reducible apply VB.id); rw [bneI]) | ((with_reducible apply VB.id); rw [beqI]) | ((with_reducible apply VB.dt); focus omega) | ((with_reducible apply VB.df); focus omega) | ((with_reducible apply VB.et); focus omega) | ((with_reducible apply VB.ef); focus omega) | ((with_reducible apply VB.nt); focus omega) | ((with_reducible apply VB.nf); focus omega) | fail)
  conv => whnf
  refine VCall.sq (c4) ?_
  repeat' ((conv => whnf); first | refine ngo ?_ | refine VB.tt ?_ | refine VB.ff ?_ | refine VNew.keep ?_ | refine dgo ?_ | refine sgo ?_ | refine ddo ?_ | refine And.intro (Nat.le_of_ble_eq_true rfl) ?_ | ((with_reducible apply VB.id); rw [bneI]) | ((with_reducible apply VB.id); rw [beqI]) | ((with_reducible apply VB.dt); focus omega) | ((with_reducible apply VB.df); focus omega) | ((with_reducible apply VB.et); focus omega) | ((with_reducible apply VB.ef); focus omega) | ((with_reducible apply VB.nt); focus omega) | ((with_reducible apply VB.nf); focus omega) | fail)
  conv => whnf
  refine VCall.sq (i1) ?_
  repeat' ((conv => whnf); first | refine ngo ?_ | refine VB.tt ?_ | refine VB.ff ?_ | refine VNew.keep ?_ | refine dgo ?_ | refine sgo ?_ | refine ddo ?_ | refine And.intro (Nat.le_of_ble_eq_true rfl) ?_ | ((with_reducible apply VB.id); rw [bneI]) | ((with_reducible apply VB.id); rw [beqI]) | ((with_reducible apply VB.dt); focus omega) | ((with_reducible apply VB.df); focus omega) | ((with_reducible apply VB.et); focus omega) | ((with_reducible apply VB.ef); focus omega) | ((with_reducible apply VB.nt); focus omega) | ((with_reducible apply VB.nf); focus omega) | fail)
  conv => whnf
  refine VCall.sq (i2) ?_
  repeat' ((conv => whnf); first | refine ngo ?_ | refine VB.tt ?_ | refine VB.ff ?_ | refine VNew.keep ?_ | refine dgo ?_ | refine sgo ?_ | refine ddo ?_ | refine And.intro (Nat.le_of_ble_eq_true rfl) ?_ | ((with_reducible apply VB.id); rw [bneI]) | ((with_reducible apply VB.id); rw [beqI]) | ((with_reducible apply VB.dt); focus omega) | ((with_reducible apply VB.df); focus omega) | ((with_reducible apply VB.et); focus omega) | ((with_reducible apply VB.ef); focus omega) | ((with_reducible apply VB.nt); focus omega) | ((with_reducible apply VB.nf); focus omega) | fail)
  conv => whnf
  refine VCall.sq (i3) ?_
  repeat' ((conv => whnf); first | refine ngo ?_ | refine VB.tt ?_ | refine VB.ff ?_ | refine VNew.keep ?_ | refine dgo ?_ | refine sgo ?_ | refine ddo ?_ | refine And.intro (Nat.le_of_ble_eq_true rfl) ?_ | ((with_reducible apply VB.id); rw [bneI]) | ((with_reducible apply VB.id); rw [beqI]) | ((with_reducible apply VB.dt); focus omega) | ((with_reducible apply VB.df); focus omega) | ((with_reducible apply VB.et); focus omega) | ((with_reducible apply VB.ef); focus omega) | ((with_reducible apply VB.nt); focus omega) | ((with_reducible apply VB.nf); focus omega) | fail)
  conv => whnf
  rfl

def lngQ (r : RawQ) : Prop := (30 < r.num.length ∧ r.num.length ≤ 1024) ∨ (30 < r.den.length ∧ r.den.length ≤ 1024) ∨ 1100 < r.num.length ∨ 1100 < r.den.length
instance (r : RawQ) : Decidable (lngQ r) := by unfold lngQ; infer_instance
theorem lngQ_not {r : RawQ} (h : ¬ lngQ r) : lenQ r 1000000000000000000 ∧ r.num.length ≤ 1100 ∧ r.den.length ≤ 1100 := by
  unfold lngQ at h
  exact ⟨⟨by omega, by omega⟩, by omega, by omega⟩
theorem qlong_raw {neg : Bool} {num den : List Nat} : VCall EE 9 [.agg [.bool neg, natL num, natL den]] [] fun v H => v = .bool (decide (lngQ ⟨neg, num, den⟩)) := by
  refine VCall.of_body true Try.func9 rfl (by decide) rfl ?_
  have key : lngQ ⟨neg, num, den⟩ ↔ ((30 < num.length ∧ num.length ≤ 1024) ∨ (30 < den.length ∧ den.length ≤ 1024) ∨ 1100 < num.length ∨ 1100 < den.length) := Iff.rfl
  rcases (by omega : num.length ≤ 30 ∨ (30 < num.length ∧ num.length ≤ 1024) ∨ (1024 < num.length ∧ num.length ≤ 1100) ∨ 1100 < num.length) with h | h | h | h <;> rcases (by omega : den.length ≤ 30 ∨ (30 < den.length ∧ den.length ≤ 1024) ∨ (1024 < den.length ∧ den.length ≤ 1100) ∨ 1100 < den.length) with k | k | k | k
  all_goals
    repeat' ((conv => whnf); first | refine ngo ?_ | refine VB.tt ?_ | refine VB.ff ?_ | refine VNew.keep ?_ | refine dgo ?_ | refine sgo ?_ | refine ddo ?_ | refine And.intro (Nat.le_of_ble_eq_true rfl) ?_ | ((with_reducible apply VB.id); rw [bneI]) | ((with_reducible apply VB.id); rw [beqI]) | ((with_reducible apply VB.dtr); (focus omega); intro hdp; rw [hdp]; clear hdp) | ((with_reducible apply VB.dfr); (focus omega); intro hdp; rw [hdp]; clear hdp) | ((with_reducible apply VB.et); focus omega) | ((with_reducible apply VB.ef); focus omega) | ((with_reducible apply VB.nt); focus omega) | ((with_reducible apply VB.nf); focus omega) | fail)
    conv => whnf
    first
    | (rw [decide_eq_true (show lngQ ⟨neg, num, den⟩ by rw [key]; omega)]; done)
    | (rw [decide_eq_false (show ¬ lngQ ⟨neg, num, den⟩ by rw [key]; omega)]; done)
    | (rw [decide_eq_true (show lngQ ⟨neg, num, den⟩ by rw [key]; omega), decide_eq_true (show (den.length : Int) > 1100 by omega)]; done)
    | (rw [decide_eq_false (show ¬ lngQ ⟨neg, num, den⟩ by rw [key]; omega), decide_eq_false (show ¬ (den.length : Int) > 1100 by omega)]; done)
    | fail
theorem qlong_c (r : RawQ) : VCall EE 9 [rawV r] [] fun v H => v = .bool (decide (lngQ r)) := qlong_raw
end Go.Proofs.Ytoijfbdjlagooaa


/- Contracts: the law RatSimples. -/
namespace Go.Proofs.Ytoijfbdjlagooaa
open Go Go.RowKit
set_option linter.unusedVariables false
set_option linter.unusedSimpArgs false
set_option maxRecDepth 100000

/-- Which fraction and which error a call over two comes to. -/
theorem opQ_ex (a b : RawQ) (e : Int) (q : Rat) : ∃ (r : RawQ) (f : Int), opQ a b e q = .tup [rawV r, .int .i64 f] ∧ (r = rz ∨ r = rq q ∧ bothQ a b = 0 ∧ e = 0) := by
  refine ⟨_, _, rfl, ?_⟩
  by_cases hb : bothQ a b = 0
  · rw [if_pos hb, outR]
    by_cases he : e = 0
    · rw [if_pos he]; exact .inr ⟨rfl, hb, he⟩
    · rw [if_neg he]; exact .inl rfl
  · rw [if_neg hb, outR, if_neg hb]; exact .inl rfl
theorem ovf_zero {q : Rat} (h : ovf q = 0) : rl q ≤ 1024 := by
  unfold ovf at h
  split at h
  · cases h
  · omega
theorem len_rz : rz.num.length < 1000000000 ∧ rz.den.length < 1000000000 := ⟨by decide, by decide⟩
theorem len_rq {q : Rat} (h : rl q ≤ 1024) : (rq q).num.length < 1000000000 ∧ (rq q).den.length < 1000000000 := by
  have h1 := rl_num q
  have h2 := rl_den q
  exact ⟨show (dg q.num.natAbs).length < _ by omega, show (dg q.den).length < _ by omega⟩

set_option maxHeartbeats 4000000 in
theorem ratsimples_raw {an bn : Bool} {anum aden bnum bden : List Nat} : VCall EE 3 [.agg [.bool an, natL anum, natL aden], .agg [.bool bn, natL bnum, natL bden]] [] fun v H => v = .bool true := by
  have A1 := qlong_raw (neg := an) (num := anum) (den := aden)
  have A2 := qlong_raw (neg := bn) (num := bnum) (den := bden)
  by_cases hla : lngQ ⟨an, anum, aden⟩
  · rw [decide_eq_true hla] at A1
    refine VCall.of_body true Try.func3 rfl (by decide) rfl ?_
    repeat' ((conv => whnf); first | refine ngo ?_ | refine VB.tt ?_ | refine VB.ff ?_ | refine VNew.keep ?_ | refine dgo ?_ | refine sgo ?_ | refine ddo ?_ | refine And.intro (Nat.le_of_ble_eq_true rfl) ?_ | ((with_reducible apply VB.id); rw [bneI]) | ((with_reducible apply VB.id); rw [beqI]) | ((with_reducible apply VB.dt); focus omega) | ((with_reducible apply VB.df); focus omega) | ((with_reducible apply VB.et); focus omega) | ((with_reducible apply VB.ef); focus omega) | ((with_reducible apply VB.nt); focus omega) | ((with_reducible apply VB.nf); focus omega) | fail)
    conv => whnf
    refine VCall.sq (A1) ?_
    repeat' ((conv => whnf); first | refine ngo ?_ | refine VB.tt ?_ | refine VB.ff ?_ | refine VNew.keep ?_ | refine dgo ?_ | refine sgo ?_ | refine ddo ?_ | refine And.intro (Nat.le_of_ble_eq_true rfl) ?_ | ((with_reducible apply VB.id); rw [bneI]) | ((with_reducible apply VB.id); rw [beqI]) | ((with_reducible apply VB.dt); focus omega) | ((with_reducible apply VB.df); focus omega) | ((with_reducible apply VB.et); focus omega) | ((with_reducible apply VB.ef); focus omega) | ((with_reducible apply VB.nt); focus omega) | ((with_reducible apply VB.nf); focus omega) | fail)
    conv => whnf
    refine VCall.sq (qawake_c) ?_
    repeat' ((conv => whnf); first | refine ngo ?_ | refine VB.tt ?_ | refine VB.ff ?_ | refine VNew.keep ?_ | refine dgo ?_ | refine sgo ?_ | refine ddo ?_ | refine And.intro (Nat.le_of_ble_eq_true rfl) ?_ | ((with_reducible apply VB.id); rw [bneI]) | ((with_reducible apply VB.id); rw [beqI]) | ((with_reducible apply VB.dt); focus omega) | ((with_reducible apply VB.df); focus omega) | ((with_reducible apply VB.et); focus omega) | ((with_reducible apply VB.ef); focus omega) | ((with_reducible apply VB.nt); focus omega) | ((with_reducible apply VB.nf); focus omega) | fail)
    conv => whnf
  rw [decide_eq_false hla] at A1
  by_cases hlb : lngQ ⟨bn, bnum, bden⟩
  · rw [decide_eq_true hlb] at A2
    refine VCall.of_body true Try.func3 rfl (by decide) rfl ?_
    repeat' ((conv => whnf); first | refine ngo ?_ | refine VB.tt ?_ | refine VB.ff ?_ | refine VNew.keep ?_ | refine dgo ?_ | refine sgo ?_ | refine ddo ?_ | refine And.intro (Nat.le_of_ble_eq_true rfl) ?_ | ((with_reducible apply VB.id); rw [bneI]) | ((with_reducible apply VB.id); rw [beqI]) | ((with_reducible apply VB.dt); focus omega) | ((with_reducible apply VB.df); focus omega) | ((with_reducible apply VB.et); focus omega) | ((with_reducible apply VB.ef); focus omega) | ((with_reducible apply VB.nt); focus omega) | ((with_reducible apply VB.nf); focus omega) | fail)
    conv => whnf
    refine VCall.sq (A1) ?_
    repeat' ((conv => whnf); first | refine ngo ?_ | refine VB.tt ?_ | refine VB.ff ?_ | refine VNew.keep ?_ | refine dgo ?_ | refine sgo ?_ | refine ddo ?_ | refine And.intro (Nat.le_of_ble_eq_true rfl) ?_ | ((with_reducible apply VB.id); rw [bneI]) | ((with_reducible apply VB.id); rw [beqI]) | ((with_reducible apply VB.dt); focus omega) | ((with_reducible apply VB.df); focus omega) | ((with_reducible apply VB.et); focus omega) | ((with_reducible apply VB.ef); focus omega) | ((with_reducible apply VB.nt); focus omega) | ((with_reducible apply VB.nf); focus omega) | fail)
    conv => whnf
    refine VCall.sq (A2) ?_
    repeat' ((conv => whnf); first | refine ngo ?_ | refine VB.tt ?_ | refine VB.ff ?_ | refine VNew.keep ?_ | refine dgo ?_ | refine sgo ?_ | refine ddo ?_ | refine And.intro (Nat.le_of_ble_eq_true rfl) ?_ | ((with_reducible apply VB.id); rw [bneI]) | ((with_reducible apply VB.id); rw [beqI]) | ((with_reducible apply VB.dt); focus omega) | ((with_reducible apply VB.df); focus omega) | ((with_reducible apply VB.et); focus omega) | ((with_reducible apply VB.ef); focus omega) | ((with_reducible apply VB.nt); focus omega) | ((with_reducible apply VB.nf); focus omega) | fail)
    conv => whnf
    refine VCall.sq (qawake_c) ?_
    repeat' ((conv => whnf); first | refine ngo ?_ | refine VB.tt ?_ | refine VB.ff ?_ | refine VNew.keep ?_ | refine dgo ?_ | refine sgo ?_ | refine ddo ?_ | refine And.intro (Nat.le_of_ble_eq_true rfl) ?_ | ((with_reducible apply VB.id); rw [bneI]) | ((with_reducible apply VB.id); rw [beqI]) | ((with_reducible apply VB.dt); focus omega) | ((with_reducible apply VB.df); focus omega) | ((with_reducible apply VB.et); focus omega) | ((with_reducible apply VB.ef); focus omega) | ((with_reducible apply VB.nt); focus omega) | ((with_reducible apply VB.nf); focus omega) | fail)
    conv => whnf
  rw [decide_eq_false hlb] at A2
  obtain ⟨la, a1, a2⟩ := lngQ_not hla
  obtain ⟨lb, b1, b2⟩ := lngQ_not hlb
  dsimp only at a1 a2 b1 b2
  clear hla hlb
  have c1 := qsimple_c ⟨an, anum, aden⟩ ⟨bn, bnum, bden⟩ la lb
  have c2 := sSimple_c ⟨an, anum, aden⟩ ⟨bn, bnum, bden⟩ la lb
  obtain ⟨r, f, hr, hr2⟩ := opQ_ex ⟨an, anum, aden⟩ ⟨bn, bnum, bden⟩ (simE (valQ ⟨an, anum, aden⟩) (valQ ⟨bn, bnum, bden⟩)) (simG (valQ ⟨an, anum, aden⟩) (valQ ⟨bn, bnum, bden⟩))
  rw [hr] at c1 c2
  have hl : r.num.length < 1000000000 ∧ r.den.length < 1000000000 := by
    rcases hr2 with rfl | ⟨rfl, hb, he⟩
    · exact len_rz
    · refine len_rq (ovf_zero ?_)
      unfold simE at he
      split at he
      · cases he
      · exact he
  have c3 := samerat_same r hl.1 hl.2
  clear hr hr2 la lb
  refine VCall.of_body true Try.func3 rfl (by decide) rfl ?_
  repeat' ((conv => whnf); first | refine ngo ?_ | refine VB.tt ?_ | refine VB.ff ?_ | refine VNew.keep ?_ | refine dgo ?_ | refine sgo ?_ | refine ddo ?_ | refine And.intro (Nat.le_of_ble_eq_true rfl) ?_ | ((with_reducible apply VB.id); rw [bneI]) | ((with_reducible apply VB.id); rw [beqI]) | ((with_reducible apply VB.dt); focus omega) | ((with_reducible apply VB.df); focus omega) | ((with_reducible apply VB.et); focus omega) | ((with_reducible apply VB.ef); focus omega) | ((with_reducible apply VB.nt); focus omega) | ((with_reducible apply VB.nf); focus omega) | fail)
  conv => whnf
  refine VCall.sq (A1) ?_
  repeat' ((conv => whnf); first | refine ngo ?_ | refine VB.tt ?_ | refine VB.ff ?_ | refine VNew.keep ?_ | refine dgo ?_ | refine sgo ?_ | refine ddo ?_ | refine And.intro (Nat.le_of_ble_eq_true rfl) ?_ | ((with_reducible apply VB.id); rw [bneI]) | ((with_reducible apply VB.id); rw [beqI]) | ((with_reducible apply VB.dt); focus omega) | ((with_reducible apply VB.df); focus omega) | ((with_reducible apply VB.et); focus omega) | ((with_reducible apply VB.ef); focus omega) | ((with_reducible apply VB.nt); focus omega) | ((with_reducible apply VB.nf); focus omega) | fail)
  conv => whnf
  refine VCall.sq (A2) ?_
  repeat' ((conv => whnf); first | refine ngo ?_ | refine VB.tt ?_ | refine VB.ff ?_ | refine VNew.keep ?_ | refine dgo ?_ | refine sgo ?_ | refine ddo ?_ | refine And.intro (Nat.le_of_ble_eq_true rfl) ?_ | ((with_reducible apply VB.id); rw [bneI]) | ((with_reducible apply VB.id); rw [beqI]) | ((with_reducible apply VB.dt); focus omega) | ((with_reducible apply VB.df); focus omega) | ((with_reducible apply VB.et); focus omega) | ((with_reducible apply VB.ef); focus omega) | ((with_reducible apply VB.nt); focus omega) | ((with_reducible apply VB.nf); focus omega) | fail)
  conv => whnf
  by_cases hc : ((anum.length : Int) > 6)
  case' pos =>
    rw [decide_eq_true hc]
    repeat' ((conv => whnf); first | refine ngo ?_ | refine VB.tt ?_ | refine VB.ff ?_ | refine VNew.keep ?_ | refine dgo ?_ | refine sgo ?_ | refine ddo ?_ | refine And.intro (Nat.le_of_ble_eq_true rfl) ?_ | ((with_reducible apply VB.id); rw [bneI]) | ((with_reducible apply VB.id); rw [beqI]) | ((with_reducible apply VB.dt); focus omega) | ((with_reducible apply VB.df); focus omega) | ((with_reducible apply VB.et); focus omega) | ((with_reducible apply VB.ef); focus omega) | ((with_reducible apply VB.nt); focus omega) | ((with_reducible apply VB.nf); focus omega) | fail)
    conv => whnf
    by_cases hd : ((anum.length : Int) < 31)
    case pos =>
      rw [decide_eq_true hd]
      repeat' ((conv => whnf); first | refine ngo ?_ | refine VB.tt ?_ | refine VB.ff ?_ | refine VNew.keep ?_ | refine dgo ?_ | refine sgo ?_ | refine ddo ?_ | refine And.intro (Nat.le_of_ble_eq_true rfl) ?_ | ((with_reducible apply VB.id); rw [bneI]) | ((with_reducible apply VB.id); rw [beqI]) | ((with_reducible apply VB.dt); focus omega) | ((with_reducible apply VB.df); focus omega) | ((with_reducible apply VB.et); focus omega) | ((with_reducible apply VB.ef); focus omega) | ((with_reducible apply VB.nt); focus omega) | ((with_reducible apply VB.nf); focus omega) | fail)
      conv => whnf
      refine VCall.sq (qawake_c) ?_
      repeat' ((conv => whnf); first | refine ngo ?_ | refine VB.tt ?_ | refine VB.ff ?_ | refine VNew.keep ?_ | refine dgo ?_ | refine sgo ?_ | refine ddo ?_ | refine And.intro (Nat.le_of_ble_eq_true rfl) ?_ | ((with_reducible apply VB.id); rw [bneI]) | ((with_reducible apply VB.id); rw [beqI]) | ((with_reducible apply VB.dt); focus omega) | ((with_reducible apply VB.df); focus omega) | ((with_reducible apply VB.et); focus omega) | ((with_reducible apply VB.ef); focus omega) | ((with_reducible apply VB.nt); focus omega) | ((with_reducible apply VB.nf); focus omega) | fail)
      conv => whnf
    case' neg =>
      rw [decide_eq_false hd]
      repeat' ((conv => whnf); first | refine ngo ?_ | refine VB.tt ?_ | refine VB.ff ?_ | refine VNew.keep ?_ | refine dgo ?_ | refine sgo ?_ | refine ddo ?_ | refine And.intro (Nat.le_of_ble_eq_true rfl) ?_ | ((with_reducible apply VB.id); rw [bneI]) | ((with_reducible apply VB.id); rw [beqI]) | ((with_reducible apply VB.dt); focus omega) | ((with_reducible apply VB.df); focus omega) | ((with_reducible apply VB.et); focus omega) | ((with_reducible apply VB.ef); focus omega) | ((with_reducible apply VB.nt); focus omega) | ((with_reducible apply VB.nf); focus omega) | fail)
      conv => whnf
  case' neg =>
    rw [decide_eq_false hc]
    repeat' ((conv => whnf); first | refine ngo ?_ | refine VB.tt ?_ | refine VB.ff ?_ | refine VNew.keep ?_ | refine dgo ?_ | refine sgo ?_ | refine ddo ?_ | refine And.intro (Nat.le_of_ble_eq_true rfl) ?_ | ((with_reducible apply VB.id); rw [bneI]) | ((with_reducible apply VB.id); rw [beqI]) | ((with_reducible apply VB.dt); focus omega) | ((with_reducible apply VB.df); focus omega) | ((with_reducible apply VB.et); focus omega) | ((with_reducible apply VB.ef); focus omega) | ((with_reducible apply VB.nt); focus omega) | ((with_reducible apply VB.nf); focus omega) | fail)
    conv => whnf
  all_goals
    by_cases hc : ((aden.length : Int) > 6)
    case' pos =>
      rw [decide_eq_true hc]
      repeat' ((conv => whnf); first | refine ngo ?_ | refine VB.tt ?_ | refine VB.ff ?_ | refine VNew.keep ?_ | refine dgo ?_ | refine sgo ?_ | refine ddo ?_ | refine And.intro (Nat.le_of_ble_eq_true rfl) ?_ | ((with_reducible apply VB.id); rw [bneI]) | ((with_reducible apply VB.id); rw [beqI]) | ((with_reducible apply VB.dt); focus omega) | ((with_reducible apply VB.df); focus omega) | ((with_reducible apply VB.et); focus omega) | ((with_reducible apply VB.ef); focus omega) | ((with_reducible apply VB.nt); focus omega) | ((with_reducible apply VB.nf); focus omega) | fail)
      conv => whnf
      by_cases hd : ((aden.length : Int) < 31)
      case pos =>
        rw [decide_eq_true hd]
        repeat' ((conv => whnf); first | refine ngo ?_ | refine VB.tt ?_ | refine VB.ff ?_ | refine VNew.keep ?_ | refine dgo ?_ | refine sgo ?_ | refine ddo ?_ | refine And.intro (Nat.le_of_ble_eq_true rfl) ?_ | ((with_reducible apply VB.id); rw [bneI]) | ((with_reducible apply VB.id); rw [beqI]) | ((with_reducible apply VB.dt); focus omega) | ((with_reducible apply VB.df); focus omega) | ((with_reducible apply VB.et); focus omega) | ((with_reducible apply VB.ef); focus omega) | ((with_reducible apply VB.nt); focus omega) | ((with_reducible apply VB.nf); focus omega) | fail)
        conv => whnf
        refine VCall.sq (qawake_c) ?_
        repeat' ((conv => whnf); first | refine ngo ?_ | refine VB.tt ?_ | refine VB.ff ?_ | refine VNew.keep ?_ | refine dgo ?_ | refine sgo ?_ | refine ddo ?_ | refine And.intro (Nat.le_of_ble_eq_true rfl) ?_ | ((with_reducible apply VB.id); rw [bneI]) | ((with_reducible apply VB.id); rw [beqI]) | ((with_reducible apply VB.dt); focus omega) | ((with_reducible apply VB.df); focus omega) | ((with_reducible apply VB.et); focus omega) | ((with_reducible apply VB.ef); focus omega) | ((with_reducible apply VB.nt); focus omega) | ((with_reducible apply VB.nf); focus omega) | fail)
        conv => whnf
      case' neg =>
        rw [decide_eq_false hd]
        repeat' ((conv => whnf); first | refine ngo ?_ | refine VB.tt ?_ | refine VB.ff ?_ | refine VNew.keep ?_ | refine dgo ?_ | refine sgo ?_ | refine ddo ?_ | refine And.intro (Nat.le_of_ble_eq_true rfl) ?_ | ((with_reducible apply VB.id); rw [bneI]) | ((with_reducible apply VB.id); rw [beqI]) | ((with_reducible apply VB.dt); focus omega) | ((with_reducible apply VB.df); focus omega) | ((with_reducible apply VB.et); focus omega) | ((with_reducible apply VB.ef); focus omega) | ((with_reducible apply VB.nt); focus omega) | ((with_reducible apply VB.nf); focus omega) | fail)
        conv => whnf
    case' neg =>
      rw [decide_eq_false hc]
      repeat' ((conv => whnf); first | refine ngo ?_ | refine VB.tt ?_ | refine VB.ff ?_ | refine VNew.keep ?_ | refine dgo ?_ | refine sgo ?_ | refine ddo ?_ | refine And.intro (Nat.le_of_ble_eq_true rfl) ?_ | ((with_reducible apply VB.id); rw [bneI]) | ((with_reducible apply VB.id); rw [beqI]) | ((with_reducible apply VB.dt); focus omega) | ((with_reducible apply VB.df); focus omega) | ((with_reducible apply VB.et); focus omega) | ((with_reducible apply VB.ef); focus omega) | ((with_reducible apply VB.nt); focus omega) | ((with_reducible apply VB.nf); focus omega) | fail)
      conv => whnf
  all_goals
    by_cases hc : ((bnum.length : Int) > 6)
    case' pos =>
      rw [decide_eq_true hc]
      repeat' ((conv => whnf); first | refine ngo ?_ | refine VB.tt ?_ | refine VB.ff ?_ | refine VNew.keep ?_ | refine dgo ?_ | refine sgo ?_ | refine ddo ?_ | refine And.intro (Nat.le_of_ble_eq_true rfl) ?_ | ((with_reducible apply VB.id); rw [bneI]) | ((with_reducible apply VB.id); rw [beqI]) | ((with_reducible apply VB.dt); focus omega) | ((with_reducible apply VB.df); focus omega) | ((with_reducible apply VB.et); focus omega) | ((with_reducible apply VB.ef); focus omega) | ((with_reducible apply VB.nt); focus omega) | ((with_reducible apply VB.nf); focus omega) | fail)
      conv => whnf
      by_cases hd : ((bnum.length : Int) < 31)
      case pos =>
        rw [decide_eq_true hd]
        repeat' ((conv => whnf); first | refine ngo ?_ | refine VB.tt ?_ | refine VB.ff ?_ | refine VNew.keep ?_ | refine dgo ?_ | refine sgo ?_ | refine ddo ?_ | refine And.intro (Nat.le_of_ble_eq_true rfl) ?_ | ((with_reducible apply VB.id); rw [bneI]) | ((with_reducible apply VB.id); rw [beqI]) | ((with_reducible apply VB.dt); focus omega) | ((with_reducible apply VB.df); focus omega) | ((with_reducible apply VB.et); focus omega) | ((with_reducible apply VB.ef); focus omega) | ((with_reducible apply VB.nt); focus omega) | ((with_reducible apply VB.nf); focus omega) | fail)
        conv => whnf
        refine VCall.sq (qawake_c) ?_
        repeat' ((conv => whnf); first | refine ngo ?_ | refine VB.tt ?_ | refine VB.ff ?_ | refine VNew.keep ?_ | refine dgo ?_ | refine sgo ?_ | refine ddo ?_ | refine And.intro (Nat.le_of_ble_eq_true rfl) ?_ | ((with_reducible apply VB.id); rw [bneI]) | ((with_reducible apply VB.id); rw [beqI]) | ((with_reducible apply VB.dt); focus omega) | ((with_reducible apply VB.df); focus omega) | ((with_reducible apply VB.et); focus omega) | ((with_reducible apply VB.ef); focus omega) | ((with_reducible apply VB.nt); focus omega) | ((with_reducible apply VB.nf); focus omega) | fail)
        conv => whnf
      case' neg =>
        rw [decide_eq_false hd]
        repeat' ((conv => whnf); first | refine ngo ?_ | refine VB.tt ?_ | refine VB.ff ?_ | refine VNew.keep ?_ | refine dgo ?_ | refine sgo ?_ | refine ddo ?_ | refine And.intro (Nat.le_of_ble_eq_true rfl) ?_ | ((with_reducible apply VB.id); rw [bneI]) | ((with_reducible apply VB.id); rw [beqI]) | ((with_reducible apply VB.dt); focus omega) | ((with_reducible apply VB.df); focus omega) | ((with_reducible apply VB.et); focus omega) | ((with_reducible apply VB.ef); focus omega) | ((with_reducible apply VB.nt); focus omega) | ((with_reducible apply VB.nf); focus omega) | fail)
        conv => whnf
    case' neg =>
      rw [decide_eq_false hc]
      repeat' ((conv => whnf); first | refine ngo ?_ | refine VB.tt ?_ | refine VB.ff ?_ | refine VNew.keep ?_ | refine dgo ?_ | refine sgo ?_ | refine ddo ?_ | refine And.intro (Nat.le_of_ble_eq_true rfl) ?_ | ((with_reducible apply VB.id); rw [bneI]) | ((with_reducible apply VB.id); rw [beqI]) | ((with_reducible apply VB.dt); focus omega) | ((with_reducible apply VB.df); focus omega) | ((with_reducible apply VB.et); focus omega) | ((with_reducible apply VB.ef); focus omega) | ((with_reducible apply VB.nt); focus omega) | ((with_reducible apply VB.nf); focus omega) | fail)
      conv => whnf
  all_goals
    by_cases hc : ((bden.length : Int) > 6)
    case' pos =>
      rw [decide_eq_true hc]
      repeat' ((conv => whnf); first | refine ngo ?_ | refine VB.tt ?_ | refine VB.ff ?_ | refine VNew.keep ?_ | refine dgo ?_ | refine sgo ?_ | refine ddo ?_ | refine And.intro (Nat.le_of_ble_eq_true rfl) ?_ | ((with_reducible apply VB.id); rw [bneI]) | ((with_reducible apply VB.id); rw [beqI]) | ((with_reducible apply VB.dt); focus omega) | ((with_reducible apply VB.df); focus omega) | ((with_reducible apply VB.et); focus omega) | ((with_reducible apply VB.ef); focus omega) | ((with_reducible apply VB.nt); focus omega) | ((with_reducible apply VB.nf); focus omega) | fail)
      conv => whnf
      by_cases hd : ((bden.length : Int) < 31)
      case pos =>
        rw [decide_eq_true hd]
        repeat' ((conv => whnf); first | refine ngo ?_ | refine VB.tt ?_ | refine VB.ff ?_ | refine VNew.keep ?_ | refine dgo ?_ | refine sgo ?_ | refine ddo ?_ | refine And.intro (Nat.le_of_ble_eq_true rfl) ?_ | ((with_reducible apply VB.id); rw [bneI]) | ((with_reducible apply VB.id); rw [beqI]) | ((with_reducible apply VB.dt); focus omega) | ((with_reducible apply VB.df); focus omega) | ((with_reducible apply VB.et); focus omega) | ((with_reducible apply VB.ef); focus omega) | ((with_reducible apply VB.nt); focus omega) | ((with_reducible apply VB.nf); focus omega) | fail)
        conv => whnf
        refine VCall.sq (qawake_c) ?_
        repeat' ((conv => whnf); first | refine ngo ?_ | refine VB.tt ?_ | refine VB.ff ?_ | refine VNew.keep ?_ | refine dgo ?_ | refine sgo ?_ | refine ddo ?_ | refine And.intro (Nat.le_of_ble_eq_true rfl) ?_ | ((with_reducible apply VB.id); rw [bneI]) | ((with_reducible apply VB.id); rw [beqI]) | ((with_reducible apply VB.dt); focus omega) | ((with_reducible apply VB.df); focus omega) | ((with_reducible apply VB.et); focus omega) | ((with_reducible apply VB.ef); focus omega) | ((with_reducible apply VB.nt); focus omega) | ((with_reducible apply VB.nf); focus omega) | fail)
        conv => whnf
      case' neg =>
        rw [decide_eq_false hd]
        repeat' ((conv => whnf); first | refine ngo ?_ | refine VB.tt ?_ | refine VB.ff ?_ | refine VNew.keep ?_ | refine dgo ?_ | refine sgo ?_ | refine ddo ?_ | refine And.intro (Nat.le_of_ble_eq_true rfl) ?_ | ((with_reducible apply VB.id); rw [bneI]) | ((with_reducible apply VB.id); rw [beqI]) | ((with_reducible apply VB.dt); focus omega) | ((with_reducible apply VB.df); focus omega) | ((with_reducible apply VB.et); focus omega) | ((with_reducible apply VB.ef); focus omega) | ((with_reducible apply VB.nt); focus omega) | ((with_reducible apply VB.nf); focus omega) | fail)
        conv => whnf
    case' neg =>
      rw [decide_eq_false hc]
      repeat' ((conv => whnf); first | refine ngo ?_ | refine VB.tt ?_ | refine VB.ff ?_ | refine VNew.keep ?_ | refine dgo ?_ | refine sgo ?_ | refine ddo ?_ | refine And.intro (Nat.le_of_ble_eq_true rfl) ?_ | ((with_reducible apply VB.id); rw [bneI]) | ((with_reducible apply VB.id); rw [beqI]) | ((with_reducible apply VB.dt); focus omega) | ((with_reducible apply VB.df); focus omega) | ((with_reducible apply VB.et); focus omega) | ((with_reducible apply VB.ef); focus omega) | ((with_reducible apply VB.nt); focus omega) | ((with_reducible apply VB.nf); focus omega) | fail)
      conv => whnf
  all_goals
    refine VCall.iq (c1) ?_
    repeat' ((conv => whnf); first | refine ngo ?_ | refine VB.tt ?_ | refine VB.ff ?_ | refine VNew.keep ?_ | refine dgo ?_ | refine sgo ?_ | refine ddo ?_ | refine And.intro (Nat.le_of_ble_eq_true rfl) ?_ | ((with_reducible apply VB.id); rw [bneI]) | ((with_reducible apply VB.id); rw [beqI]) | ((with_reducible apply VB.dt); focus omega) | ((with_reducible apply VB.df); focus omega) | ((with_reducible apply VB.et); focus omega) | ((with_reducible apply VB.ef); focus omega) | ((with_reducible apply VB.nt); focus omega) | ((with_reducible apply VB.nf); focus omega) | fail)
    conv => whnf
    refine VCall.iq (c2) ?_
    repeat' ((conv => whnf); first | refine ngo ?_ | refine VB.tt ?_ | refine VB.ff ?_ | refine VNew.keep ?_ | refine dgo ?_ | refine sgo ?_ | refine ddo ?_ | refine And.intro (Nat.le_of_ble_eq_true rfl) ?_ | ((with_reducible apply VB.id); rw [bneI]) | ((with_reducible apply VB.id); rw [beqI]) | ((with_reducible apply VB.dt); focus omega) | ((with_reducible apply VB.df); focus omega) | ((with_reducible apply VB.et); focus omega) | ((with_reducible apply VB.ef); focus omega) | ((with_reducible apply VB.nt); focus omega) | ((with_reducible apply VB.nf); focus omega) | fail)
    conv => whnf
    refine VCall.sq (c3) ?_
    repeat' ((conv => whnf); first | refine ngo ?_ | refine VB.tt ?_ | refine VB.ff ?_ | refine VNew.keep ?_ | refine dgo ?_ | refine sgo ?_ | refine ddo ?_ | refine And.intro (Nat.le_of_ble_eq_true rfl) ?_ | ((with_reducible apply VB.id); rw [bneI]) | ((with_reducible apply VB.id); rw [beqI]) | ((with_reducible apply VB.dt); focus omega) | ((with_reducible apply VB.df); focus omega) | ((with_reducible apply VB.et); focus omega) | ((with_reducible apply VB.ef); focus omega) | ((with_reducible apply VB.nt); focus omega) | ((with_reducible apply VB.nf); focus omega) | fail)
    conv => whnf
    refine VCall.sq (qawake_c) ?_
    repeat' ((conv => whnf); first | refine ngo ?_ | refine VB.tt ?_ | refine VB.ff ?_ | refine VNew.keep ?_ | refine dgo ?_ | refine sgo ?_ | refine ddo ?_ | refine And.intro (Nat.le_of_ble_eq_true rfl) ?_ | ((with_reducible apply VB.id); rw [bneI]) | ((with_reducible apply VB.id); rw [beqI]) | ((with_reducible apply VB.dt); focus omega) | ((with_reducible apply VB.df); focus omega) | ((with_reducible apply VB.et); focus omega) | ((with_reducible apply VB.ef); focus omega) | ((with_reducible apply VB.nt); focus omega) | ((with_reducible apply VB.nf); focus omega) | fail)
    conv => whnf
theorem ratsimples_c (a b : RawQ) : VCall EE 3 [rawV a, rawV b] [] fun v H => v = .bool true := ratsimples_raw
end Go.Proofs.Ytoijfbdjlagooaa
