/- The program logic and the contracts that a law leans on, part 4. -/
import Derived.Test.YtcdnonggajoghaaDoorA3
import Derived.Test.YtcdnonggajoghaaDoorA2

/- Contracts: reading a number, the program's. -/
namespace Go.Proofs.YtcdnonggajoghaaDoor
open Go Go.RowKit
set_option linter.unusedVariables false
set_option linter.unusedSimpArgs false
set_option maxRecDepth 100000

theorem dgs_last {l : List Nat} (h : ∀ j, j < l.length → isD (l.getD j 0) = true) (hn : l.length ≠ 0) : (dgs l).getD ((dgs l).length - 1) 0 = l.getD 0 0 - 48 := by
  rw [dgs_length, dgs_getD (by omega), show l.length - 1 - (l.length - 1) = 0 by omega]

theorem pw_at (k : Nat) (hk : k < 9) : ([1, 10, 100, 1000, 10000, 100000, 1000000, 10000000, 100000000] : List Nat).getD k 0 = 10 ^ k := by
  rcases (by omega : k = 0 ∨ k = 1 ∨ k = 2 ∨ k = 3 ∨ k = 4 ∨ k = 5 ∨ k = 6 ∨ k = 7 ∨ k = 8) with rfl | rfl | rfl | rfl | rfl | rfl | rfl | rfl | rfl <;> rfl
def pwL : List AV := [.int .u32 1, .int .u32 10, .int .u32 100, .int .u32 1000, .int .u32 10000, .int .u32 100000, .int .u32 1000000, .int .u32 10000000, .int .u32 100000000]
theorem pwL_eq : pwL = limbs [1, 10, 100, 1000, 10000, 100000, 1000000, 10000000, 100000000] := rfl

set_option maxHeartbeats 4000000 in
theorem nparse_c (s : ByteArray) (hs : s.size < 1000000000000000000) : VCall EE 26 [.str s] [] fun v H => Fz H 0 [] v (pnV (parseN (bts s))) := by
  refine VCall.of_body true Tryd.func26 rfl (by decide) rfl ?_
  have hl := bts_length s
  repeat' ((conv => whnf); first | refine ngo ?_ | refine VB.tt ?_ | refine VB.ff ?_ | refine VNew.keep ?_ | refine dgo ?_ | refine sgo ?_ | fail)
  conv => whnf
  refine VB.dec (fun h => ?_) (fun h => ?_)
  · repeat' ((conv => whnf); first | refine ngo ?_ | refine VB.tt ?_ | refine VB.ff ?_ | refine VNew.keep ?_ | refine dgo ?_ | refine sgo ?_ | fail)
    conv => whnf
    rw [pnV, parseN, if_pos (by omega)]
    repeat' (first | exact fz_nil0 | exact Fz.nsl | exact Fz.same rfl (by repeat' (first | exact trivial | exact low_natL 0 _ | exact low_limbs 0 _ | refine And.intro ?_ ?_ | fail)) | refine Fz.tup ?_ | refine FzL.cons ?_ ?_ | exact FzL.nil | fail)
  rw [parseN, if_neg (by omega)]
  repeat' ((conv => whnf); first | refine ngo ?_ | refine VB.tt ?_ | refine VB.ff ?_ | refine VNew.keep ?_ | refine dgo ?_ | refine sgo ?_ | fail)
  conv => whnf
  refine VLoop.ix true (fun i : Nat => ⟨[(0, .str s), (2, .nsl), (3, .ptr 0 0 0), (12, .int .i64 s.size), (13, .int .i64 i)], [.cells 0 40 [.int .i64 0, .int .i64 0]], []⟩) (fun i => i ≤ s.size ∧ ∀ j, j < i → isD ((bts s).getD j 0) = true) (fun i => s.size - i) 0 ⟨Nat.zero_le _, fun j hj => absurd hj (Nat.not_lt_zero _)⟩ ⟨⟨rfl, rfl, rfl, rfl, rfl, trivial⟩, rfl, rfl⟩ ?_
  rintro i ⟨hi, hg⟩
  repeat' ((conv => whnf); first | refine ngo ?_ | refine VB.tt ?_ | refine VB.ff ?_ | refine VNew.keep ?_ | refine dgo ?_ | refine sgo ?_ | fail)
  conv => whnf
  refine VB.dec (fun h2 => ?_) (fun h2 => ?_)
  · repeat' ((conv => whnf); first | refine ngo ?_ | refine VB.tt ?_ | refine VB.ff ?_ | refine VNew.keep ?_ | refine dgo ?_ | refine sgo ?_ | fail)
    conv => whnf
    rw [Int.toNat_natCast, strAt_bts]
    generalize hx : (bts s).getD i 0 = x at *
    have bad : isD x = false → badAt (bts s) = i := fun hb => badAt_at (by omega) hg (by rw [hx]; exact hb)
    repeat' ((conv => whnf); first | refine ngo ?_ | refine VB.tt ?_ | refine VB.ff ?_ | refine VNew.keep ?_ | refine dgo ?_ | refine sgo ?_ | fail)
    conv => whnf
    by_cases h3 : (x : Int) < 48
    · rw [decide_eq_true h3]
      repeat' ((conv => whnf); first | refine ngo ?_ | refine VB.tt ?_ | refine VB.ff ?_ | refine VNew.keep ?_ | refine dgo ?_ | refine sgo ?_ | fail)
      conv => whnf
      rw [bad (by simp [isD]; omega), if_pos (by omega)]
      repeat' (first | exact fz_nil0 | exact Fz.nsl | exact Fz.same rfl (by repeat' (first | exact trivial | exact low_natL 0 _ | exact low_limbs 0 _ | refine And.intro ?_ ?_ | fail)) | refine Fz.tup ?_ | refine FzL.cons ?_ ?_ | exact FzL.nil | fail)
    rw [decide_eq_false h3]
    repeat' ((conv => whnf); first | refine ngo ?_ | refine VB.tt ?_ | refine VB.ff ?_ | refine VNew.keep ?_ | refine dgo ?_ | refine sgo ?_ | fail)
    conv => whnf
    rw [Int.toNat_natCast, strAt_bts, hx]
    repeat' ((conv => whnf); first | refine ngo ?_ | refine VB.tt ?_ | refine VB.ff ?_ | refine VNew.keep ?_ | refine dgo ?_ | refine sgo ?_ | fail)
    conv => whnf
    by_cases h4 : (x : Int) > 57
    · rw [decide_eq_true h4]
      repeat' ((conv => whnf); first | refine ngo ?_ | refine VB.tt ?_ | refine VB.ff ?_ | refine VNew.keep ?_ | refine dgo ?_ | refine sgo ?_ | fail)
      conv => whnf
      rw [bad (by simp [isD]; omega), if_pos (by omega)]
      repeat' (first | exact fz_nil0 | exact Fz.nsl | exact Fz.same rfl (by repeat' (first | exact trivial | exact low_natL 0 _ | exact low_limbs 0 _ | refine And.intro ?_ ?_ | fail)) | refine Fz.tup ?_ | refine FzL.cons ?_ ?_ | exact FzL.nil | fail)
    rw [decide_eq_false h4]
    repeat' ((conv => whnf); first | refine ngo ?_ | refine VB.tt ?_ | refine VB.ff ?_ | refine VNew.keep ?_ | refine dgo ?_ | refine sgo ?_ | fail)
    conv => whnf
    refine ⟨i + 1, ⟨by omega, fun j hj => ?_⟩, by omega, ⟨⟨rfl, rfl, rfl, rfl, by simp [lk], trivial⟩, rfl, rfl⟩⟩
    rcases Nat.lt_or_ge j i with hj2 | hj2
    · exact hg j hj2
    · obtain rfl : j = i := by omega
      rw [hx]
      exact isD_iff.2 ⟨by omega, by omega⟩
  · obtain rfl : i = s.size := by omega
    have hg : ∀ j, j < (bts s).length → isD ((bts s).getD j 0) = true := by rw [hl]; exact hg
    rw [if_neg (by rw [badAt_none hg]; omega)]
    have hok := dgs_ok hg
    have hDl : (dgs (bts s)).length = s.size := by rw [dgs_length, hl]
    have hDg : ∀ p, p < s.size → (dgs (bts s)).getD p 0 = (bts s).getD (s.size - 1 - p) 0 - 48 := fun p hp => by
      rw [dgs_getD (by omega), hl]
    repeat' ((conv => whnf); first | refine ngo ?_ | refine VB.tt ?_ | refine VB.ff ?_ | refine VNew.keep ?_ | refine dgo ?_ | refine sgo ?_ | fail)
    conv => whnf
    rw [str_eq]
    by_cases h3 : bts s = bts ⟨#[]⟩
    · have h4 : s.size = 0 := by rw [← hl, h3]; rfl
      rw [decide_eq_true h3]
      repeat' ((conv => whnf); first | refine ngo ?_ | refine VB.tt ?_ | refine VB.ff ?_ | refine VNew.keep ?_ | refine dgo ?_ | refine sgo ?_ | fail)
      conv => whnf
      rw [if_pos (.inl (by omega))]
      repeat' (first | exact fz_nil0 | exact Fz.nsl | exact Fz.same rfl (by repeat' (first | exact trivial | exact low_natL 0 _ | exact low_limbs 0 _ | refine And.intro ?_ ?_ | fail)) | refine Fz.tup ?_ | refine FzL.cons ?_ ?_ | exact FzL.nil | fail)
    rw [decide_eq_false h3]
    have h3 : s.size ≠ 0 := fun h4 => h3 (List.length_eq_zero_iff.1 (by omega))
    have hne0 := h3
    repeat' ((conv => whnf); first | refine ngo ?_ | refine VB.tt ?_ | refine VB.ff ?_ | refine VNew.keep ?_ | refine dgo ?_ | refine sgo ?_ | fail)
    conv => whnf
    rw [Int.toNat_zero, strAt_bts]
    by_cases h5 : (bts s).getD 0 0 = 48
    · have h5' : (((bts s).getD 0 0 : Nat) : Int) = 48 := by omega
      rw [beq_iff_eq.2 h5']
      repeat' ((conv => whnf); first | refine ngo ?_ | refine VB.tt ?_ | refine VB.ff ?_ | refine VNew.keep ?_ | refine dgo ?_ | refine sgo ?_ | fail)
      conv => whnf
      by_cases h4 : (s.size : Int) > 1
      · rw [decide_eq_true h4]
        repeat' ((conv => whnf); first | refine ngo ?_ | refine VB.tt ?_ | refine VB.ff ?_ | refine VNew.keep ?_ | refine dgo ?_ | refine sgo ?_ | fail)
        conv => whnf
        rw [if_pos (.inr ⟨by omega, h5⟩)]
        repeat' (first | exact fz_nil0 | exact Fz.nsl | exact Fz.same rfl (by repeat' (first | exact trivial | exact low_natL 0 _ | exact low_limbs 0 _ | refine And.intro ?_ ?_ | fail)) | refine Fz.tup ?_ | refine FzL.cons ?_ ?_ | exact FzL.nil | fail)
      · rw [decide_eq_false h4, if_neg (by omega)]
        have hz : ¬ (1 < s.size ∧ (bts s).getD 0 0 = 48) := by omega
        clear h4 h5 h5' h3
        repeat' ((conv => whnf); first | refine ngo ?_ | refine VB.tt ?_ | refine VB.ff ?_ | refine VNew.keep ?_ | refine dgo ?_ | refine sgo ?_ | fail)
        conv => whnf
        refine VLoop.tr true (fun x : List Nat × Nat => ⟨[(0, .str s), (3, .ptr 0 0 0), (5, acV 1 x.1), (43, .int .i64 s.size), (44, .int .i64 x.2)], .cells 0 40 [.int .i64 0, .int .i64 0] :: acH 30 x.1, []⟩) (fun x => x.1 = chunks ((dgs (bts s)).take x.2) ((x.2 + 8) / 9) ∧ x.2 ≤ s.size) (fun x => s.size - x.2) ([], 0) ⟨rfl, by omega⟩ ⟨⟨rfl, rfl, rfl, rfl, rfl, trivial⟩, rfl, rfl⟩ ?_
        rintro ⟨l, i⟩ ⟨hli, hi⟩
        dsimp only at hli hi ⊢
        repeat' ((conv => whnf); first | refine ngo ?_ | refine VB.tt ?_ | refine VB.ff ?_ | refine VNew.keep ?_ | refine dgo ?_ | refine sgo ?_ | fail)
        conv => whnf
        refine VB.dec (fun h6 => ?_) (fun h6 => ?_)
        · have g9 : (i : Int).tdiv 9 = ((i / 9 : Nat) : Int) := (Int.ofNat_tdiv i 9).symm
          have g10 : (i : Int).tmod 9 = ((i % 9 : Nat) : Int) := (Int.ofNat_tmod i 9).symm
          have hset := chunks_set (D := dgs (bts s)) (i := i) (by omega)
          have hcl := chunk_lt (hok.take i) (i / 9)
          have hcl2 := chunk_lt (hok.take (i + 1)) (i / 9)
          rw [chunk_step (by omega)] at hcl2
          have hu0 := chunks_getD (D := (dgs (bts s)).take i) (Nat.lt_succ_self (i / 9))
          have hul := chunks_length ((dgs (bts s)).take i) (i / 9 + 1)
          have hul2 := chunks_length ((dgs (bts s)).take (i + 1)) (i / 9 + 1)
          have hd := isD_iff.1 (hg (s.size - 1 - i) (by omega))
          rw [hDg i (by omega)] at hset hcl2
          have hBB : BB = 1000000000 := rfl
          have ek : (i + 1 + 8) / 9 = i / 9 + 1 := by omega
          have hlen := congrArg List.length hli
          rw [chunks_length] at hlen
          have hk9 : i % 9 < 9 := Nat.mod_lt _ (by decide)
          have hadd : i % 9 = 0 → l ++ [0] = chunks ((dgs (bts s)).take i) (i / 9 + 1) := fun h0 => by
            rw [hli, show (i + 8) / 9 = i / 9 by omega]
            exact chunks_add (by rw [List.length_take]; omega)
          have hsame : i % 9 ≠ 0 → l = chunks ((dgs (bts s)).take i) (i / 9 + 1) := fun h0 => by
            rw [hli, show (i + 8) / 9 = i / 9 + 1 by omega]
          have hln : i % 9 = 0 → l.length = i / 9 := fun h0 => by omega
          have hiN : i = 9 * (i / 9) + i % 9 := by omega
          have hpk := pw_at (i % 9) hk9
          have hpp : (10 : Nat) ^ (i % 9) ≤ 100000000 := Nat.pow_le_pow_right (n := 10) (i := i % 9) (j := 8) (by decide) (by omega)
          repeat' ((conv => whnf); first | refine ngo ?_ | refine VB.tt ?_ | refine VB.ff ?_ | refine VNew.keep ?_ | refine dgo ?_ | refine sgo ?_ | fail)
          conv => whnf
          rw [g10]
          generalize hu2 : chunks ((dgs (bts s)).take (i + 1)) (i / 9 + 1) = u2 at *
          generalize chunk ((dgs (bts s)).take i) (i / 9) = c at *
          generalize hu : chunks ((dgs (bts s)).take i) (i / 9 + 1) = u at *
          generalize hdd : (bts s).getD (s.size - 1 - i) 0 = d at *
          generalize i / 9 = j at *
          generalize (10 : Nat) ^ (i % 9) = pw at *
          generalize i % 9 = k at *
          refine VB.eq (fun h7 => ?_) (fun h7 => ?_)
          · have hadd := hadd (by omega)
            have hln := hln (by omega)
            cases l with
            | nil =>
              obtain rfl : [0] = u := hadd
              obtain rfl : j = 0 := by simp at hul; omega
              repeat' ((conv => whnf); first | refine ngo ?_ | refine VB.tt ?_ | refine VB.ff ?_ | refine VNew.keep ?_ | refine dgo ?_ | refine sgo ?_ | fail)
              conv => whnf
              refine VDraw.meets (s0 := ⟨[(0, .str s), (3, .ptr 0 0 0), (5, .osl 2 0 0 1 1), (6, .int .i64 i), (43, .int .i64 s.size), (44, .int .i64 i)], [.cells 0 40 [.int .i64 0, .int .i64 0], .cells 0 30 [.int .u32 0], .cells 0 30 (limbs [0])], []⟩) ?_ ⟨⟨rfl, rfl, rfl, rfl, rfl, rfl, trivial⟩, rfl, rfl⟩
              refine VDraw.t true 21 mixed (by kernel_rfl) (by kernel_rfl) ?_
              have eix : ((s.size : Int) - 1 - (i : Int)).toNat = s.size - 1 - i := by omega
              repeat' ((conv => whnf); first | refine ngo ?_ | refine VB.tt ?_ | refine VB.ff ?_ | refine VNew.keep ?_ | refine dgo ?_ | refine sgo ?_ | fail)
              conv => whnf
              rw [eix, strAt_bts, hdd, g9, Int.toNat_natCast, Nat.zero_add, Nat.mul_one, getInt_limbs, hu0]
              repeat' ((conv => whnf); first | refine ngo ?_ | refine VB.tt ?_ | refine VB.ff ?_ | refine VNew.keep ?_ | refine dgo ?_ | refine sgo ?_ | fail)
              conv => whnf
              rw [g10, Int.toNat_natCast, Nat.mul_one]
              refine ⟨IntAt.limbs (by simp only [List.length_cons, List.length_nil]; omega), ?_⟩
              conv => whnf
              rw [getInt_limbs, hpk]
              have hmul : ((d : Int) - 48) * (pw : Int) = (((d - 48) * pw : Nat) : Int) := by
                rw [show (d : Int) - 48 = ((d - 48 : Nat) : Int) by omega]; rfl
              rw [hmul]
              generalize (d - 48) * pw = q at *
              repeat' ((conv => whnf); first | refine ngo ?_ | refine VB.tt ?_ | refine VB.ff ?_ | refine VNew.keep ?_ | refine dgo ?_ | refine sgo ?_ | fail)
              conv => whnf
              obtain ⟨z, u3, rfl⟩ : ∃ z u3, u2 = z :: u3 := by
                cases u2 with
                | nil => simp at hul2
                | cons z u3 => exact ⟨z, u3, rfl⟩
              have hul3 : u3.length = 0 := by simpa using hul2
              refine ⟨(z :: u3, i + 1), ⟨by dsimp only; rw [ek]; exact hu2.symm, by dsimp only; omega⟩, by dsimp only; omega, [2], by simp, by simp, ⟨⟨_, rfl, .cells rfl (FzL.same rfl ⟨trivial, trivial, trivial⟩)⟩, ⟨_, rfl, .cells (by omega) (FzL.same ?_ (low_limbs _ (z :: u3)))⟩, trivial⟩, ⟨⟨_, rfl, .same rfl trivial⟩, ⟨_, rfl, .same rfl Nat.zero_lt_one⟩, ⟨_, rfl, .kosl (j := 0) rfl rfl (by omega) (by omega)⟩, ⟨_, rfl, .same rfl trivial⟩, ⟨_, rfl, .same (by simp) trivial⟩, trivial⟩, rfl, by simp⟩
              have hsp := splice_limbs (l := [0]) (i := 0) (by omega) (c + q)
              rw [Int.natCast_add, hset] at hsp
              simp only [Int.toNat_natCast, Nat.mul_one, Nat.zero_add]
              exact hsp
            | cons y l =>
              simp only [List.length_cons] at hln
              repeat' ((conv => whnf); first | refine ngo ?_ | refine VB.tt ?_ | refine VB.ff ?_ | refine VNew.keep ?_ | refine dgo ?_ | refine sgo ?_ | fail)
              conv => whnf
              refine VDraw.meets (s0 := ⟨[(0, .str s), (3, .ptr 0 0 0), (5, .osl 1 (l.length + 1) 0 (l.length + 1 + 1) 1), (6, .int .i64 i), (43, .int .i64 s.size), (44, .int .i64 i)], [.cells 0 40 [.int .i64 0, .int .i64 0], .cells (l.length + 1) 30 (limbs u), .cells 0 30 [.int .u32 0]], []⟩) ?_ ⟨⟨rfl, rfl, rfl, rfl, rfl, rfl, trivial⟩, ?_, rfl⟩
              rotate_left
              · rw [← hadd]; simp [limbs]; exact List.take_of_length_le (by simp)
              refine VDraw.t true 21 mixed (by kernel_rfl) (by kernel_rfl) ?_
              have eix : ((s.size : Int) - 1 - (i : Int)).toNat = s.size - 1 - i := by omega
              repeat' ((conv => whnf); first | refine ngo ?_ | refine VB.tt ?_ | refine VB.ff ?_ | refine VNew.keep ?_ | refine dgo ?_ | refine sgo ?_ | fail)
              conv => whnf
              rw [eix, strAt_bts, hdd, g9, Int.toNat_natCast, Nat.zero_add, Nat.mul_one, getInt_limbs, hu0]
              repeat' ((conv => whnf); first | refine ngo ?_ | refine VB.tt ?_ | refine VB.ff ?_ | refine VNew.keep ?_ | refine dgo ?_ | refine sgo ?_ | fail)
              conv => whnf
              rw [g10, Int.toNat_natCast, Nat.mul_one]
              refine ⟨IntAt.limbs (by simp only [List.length_cons, List.length_nil]; omega), ?_⟩
              conv => whnf
              rw [getInt_limbs, hpk]
              have hmul : ((d : Int) - 48) * (pw : Int) = (((d - 48) * pw : Nat) : Int) := by
                rw [show (d : Int) - 48 = ((d - 48 : Nat) : Int) by omega]; rfl
              rw [hmul]
              generalize (d - 48) * pw = q at *
              repeat' ((conv => whnf); first | refine ngo ?_ | refine VB.tt ?_ | refine VB.ff ?_ | refine VNew.keep ?_ | refine dgo ?_ | refine sgo ?_ | fail)
              conv => whnf
              obtain ⟨z, u3, rfl⟩ : ∃ z u3, u2 = z :: u3 := by
                cases u2 with
                | nil => simp at hul2
                | cons z u3 => exact ⟨z, u3, rfl⟩
              have hul3 : u3.length = j := by simpa using hul2
              refine ⟨(z :: u3, i + 1), ⟨by dsimp only; rw [ek]; exact hu2.symm, by dsimp only; omega⟩, by dsimp only; omega, [1], by simp, by simp, ⟨⟨_, rfl, .cells rfl (FzL.same rfl ⟨trivial, trivial, trivial⟩)⟩, ⟨_, rfl, .cells (by omega) (FzL.same ?_ (low_limbs _ (z :: u3)))⟩, trivial⟩, ⟨⟨_, rfl, .same rfl trivial⟩, ⟨_, rfl, .same rfl Nat.zero_lt_one⟩, ⟨_, rfl, .kosl (j := 0) rfl rfl (by omega) (by omega)⟩, ⟨_, rfl, .same rfl trivial⟩, ⟨_, rfl, .same (by simp) trivial⟩, trivial⟩, rfl, by simp⟩
              have hsp := splice_limbs (l := u) (i := j) (by omega) (c + q)
              rw [Int.natCast_add, hset] at hsp
              simp only [Int.toNat_natCast, Nat.mul_one, Nat.zero_add]
              exact hsp
          · have hsame := hsame (by omega)
            cases l with
            | nil => simp [← hsame] at hul
            | cons y l =>
              have hln2 : l.length = j := by rw [← hsame, List.length_cons] at hul; omega
              repeat' ((conv => whnf); first | refine ngo ?_ | refine VB.tt ?_ | refine VB.ff ?_ | refine VNew.keep ?_ | refine dgo ?_ | refine sgo ?_ | fail)
              conv => whnf
              refine VDraw.meets (s0 := ⟨[(0, .str s), (3, .ptr 0 0 0), (5, .osl 1 l.length 0 (l.length + 1) 1), (6, .int .i64 i), (43, .int .i64 s.size), (44, .int .i64 i)], [.cells 0 40 [.int .i64 0, .int .i64 0], .cells l.length 30 (limbs u)], []⟩) ?_ ⟨⟨rfl, rfl, rfl, rfl, rfl, rfl, trivial⟩, ?_, rfl⟩
              rotate_left
              · rw [← hsame]; rfl
              refine VDraw.t true 21 mixed (by kernel_rfl) (by kernel_rfl) ?_
              have eix : ((s.size : Int) - 1 - (i : Int)).toNat = s.size - 1 - i := by omega
              repeat' ((conv => whnf); first | refine ngo ?_ | refine VB.tt ?_ | refine VB.ff ?_ | refine VNew.keep ?_ | refine dgo ?_ | refine sgo ?_ | fail)
              conv => whnf
              rw [eix, strAt_bts, hdd, g9, Int.toNat_natCast, Nat.zero_add, Nat.mul_one, getInt_limbs, hu0]
              repeat' ((conv => whnf); first | refine ngo ?_ | refine VB.tt ?_ | refine VB.ff ?_ | refine VNew.keep ?_ | refine dgo ?_ | refine sgo ?_ | fail)
              conv => whnf
              rw [g10, Int.toNat_natCast, Nat.mul_one]
              refine ⟨IntAt.limbs (by simp only [List.length_cons, List.length_nil]; omega), ?_⟩
              conv => whnf
              rw [getInt_limbs, hpk]
              have hmul : ((d : Int) - 48) * (pw : Int) = (((d - 48) * pw : Nat) : Int) := by
                rw [show (d : Int) - 48 = ((d - 48 : Nat) : Int) by omega]; rfl
              rw [hmul]
              generalize (d - 48) * pw = q at *
              repeat' ((conv => whnf); first | refine ngo ?_ | refine VB.tt ?_ | refine VB.ff ?_ | refine VNew.keep ?_ | refine dgo ?_ | refine sgo ?_ | fail)
              conv => whnf
              obtain ⟨z, u3, rfl⟩ : ∃ z u3, u2 = z :: u3 := by
                cases u2 with
                | nil => simp at hul2
                | cons z u3 => exact ⟨z, u3, rfl⟩
              have hul3 : u3.length = j := by simpa using hul2
              refine ⟨(z :: u3, i + 1), ⟨by dsimp only; rw [ek]; exact hu2.symm, by dsimp only; omega⟩, by dsimp only; omega, [1], by simp, by simp, ⟨⟨_, rfl, .cells rfl (FzL.same rfl ⟨trivial, trivial, trivial⟩)⟩, ⟨_, rfl, .cells (by omega) (FzL.same ?_ (low_limbs _ (z :: u3)))⟩, trivial⟩, ⟨⟨_, rfl, .same rfl trivial⟩, ⟨_, rfl, .same rfl Nat.zero_lt_one⟩, ⟨_, rfl, .kosl (j := 0) rfl rfl (by omega) (by omega)⟩, ⟨_, rfl, .same rfl trivial⟩, ⟨_, rfl, .same (by simp) trivial⟩, trivial⟩, rfl, by simp⟩
              have hsp := splice_limbs (l := u) (i := j) (by omega) (c + q)
              rw [Int.natCast_add, hset] at hsp
              simp only [Int.toNat_natCast, Nat.mul_one, Nat.zero_add]
              exact hsp
        · obtain rfl : i = s.size := by omega
          rw [List.take_of_length_le (by omega)] at hli
          have hvl : val l = Dec.val (dgs (bts s)) := by rw [hli, val_chunks, List.take_of_length_le (by omega)]
          repeat' ((conv => whnf); first | refine ngo ?_ | refine VB.tt ?_ | refine VB.ff ?_ | refine VNew.keep ?_ | refine dgo ?_ | refine sgo ?_ | fail)
          conv => whnf
          rw [str_eq]
          by_cases h8 : bts s = bts ⟨#[48]⟩
          · rw [decide_eq_true h8]
            cases l with
            | nil =>
              repeat' ((conv => whnf); first | refine ngo ?_ | refine VB.tt ?_ | refine VB.ff ?_ | refine VNew.keep ?_ | refine dgo ?_ | refine sgo ?_ | fail)
              conv => whnf
              rw [h8, show Dec.val (dgs (bts ⟨#[48]⟩)) = 0 from rfl]
              repeat' (first | exact fz_nil0 | exact Fz.nsl | exact Fz.same rfl (by repeat' (first | exact trivial | exact low_natL 0 _ | exact low_limbs 0 _ | refine And.intro ?_ ?_ | fail)) | refine Fz.tup ?_ | refine FzL.cons ?_ ?_ | exact FzL.nil | fail)
            | cons y l =>
              repeat' ((conv => whnf); first | refine ngo ?_ | refine VB.tt ?_ | refine VB.ff ?_ | refine VNew.keep ?_ | refine dgo ?_ | refine sgo ?_ | fail)
              conv => whnf
              rw [h8, show Dec.val (dgs (bts ⟨#[48]⟩)) = 0 from rfl]
              repeat' (first | exact fz_nil0 | exact Fz.nsl | exact Fz.same rfl (by repeat' (first | exact trivial | exact low_natL 0 _ | exact low_limbs 0 _ | refine And.intro ?_ ?_ | fail)) | refine Fz.tup ?_ | refine FzL.cons ?_ ?_ | exact FzL.nil | fail)
          · rw [decide_eq_false h8]
            have hcan := canon_chunks hok (by omega) (by
              rw [dgs_last hg (by omega)]
              intro h9
              have h10 := isD_iff.1 (hg 0 (by omega))
              have h11 : s.size = 1 := by omega
              apply h8
              obtain ⟨x, hx⟩ := List.length_eq_one_iff.1 (hl.trans h11)
              rw [hx] at h9 h10
              rw [hx]
              obtain rfl : x = 48 := by simp at h9 h10; omega
              rfl)
            rw [hDl, ← hli] at hcan
            have hdl := dg_val hcan
            rw [hvl] at hdl
            cases l with
            | nil =>
              repeat' ((conv => whnf); first | refine ngo ?_ | refine VB.tt ?_ | refine VB.ff ?_ | refine VNew.keep ?_ | refine dgo ?_ | refine sgo ?_ | fail)
              conv => whnf
              rw [← hvl]
              repeat' (first | exact fz_nil0 | exact Fz.nsl | exact Fz.same rfl (by repeat' (first | exact trivial | exact low_natL 0 _ | exact low_limbs 0 _ | refine And.intro ?_ ?_ | fail)) | refine Fz.tup ?_ | refine FzL.cons ?_ ?_ | exact FzL.nil | fail)
            | cons y l =>
              repeat' ((conv => whnf); first | refine ngo ?_ | refine VB.tt ?_ | refine VB.ff ?_ | refine VNew.keep ?_ | refine dgo ?_ | refine sgo ?_ | fail)
              conv => whnf
              refine .tup (.cons ?_ (.cons (.same rfl ⟨trivial, trivial, trivial⟩) .nil))
              refine Fz.nat (l := dg (Dec.val (dgs (bts s)))) (Nat.zero_le _) (by simp) rfl ?_ (by rw [hdl]; rfl)
              rw [hdl, Nat.mul_one]
              exact List.take_of_length_le (by simp [limbs])
    · rw [beq_eq_false_iff_ne.2 (show (((bts s).getD 0 0 : Nat) : Int) ≠ 48 by omega), if_neg (by omega)]
      have hz : ¬ (1 < s.size ∧ (bts s).getD 0 0 = 48) := by omega
      clear h5 h3
      repeat' ((conv => whnf); first | refine ngo ?_ | refine VB.tt ?_ | refine VB.ff ?_ | refine VNew.keep ?_ | refine dgo ?_ | refine sgo ?_ | fail)
      conv => whnf
      refine VLoop.tr true (fun x : List Nat × Nat => ⟨[(0, .str s), (3, .ptr 0 0 0), (5, acV 1 x.1), (43, .int .i64 s.size), (44, .int .i64 x.2)], .cells 0 40 [.int .i64 0, .int .i64 0] :: acH 30 x.1, []⟩) (fun x => x.1 = chunks ((dgs (bts s)).take x.2) ((x.2 + 8) / 9) ∧ x.2 ≤ s.size) (fun x => s.size - x.2) ([], 0) ⟨rfl, by omega⟩ ⟨⟨rfl, rfl, rfl, rfl, rfl, trivial⟩, rfl, rfl⟩ ?_
      rintro ⟨l, i⟩ ⟨hli, hi⟩
      dsimp only at hli hi ⊢
      repeat' ((conv => whnf); first | refine ngo ?_ | refine VB.tt ?_ | refine VB.ff ?_ | refine VNew.keep ?_ | refine dgo ?_ | refine sgo ?_ | fail)
      conv => whnf
      refine VB.dec (fun h6 => ?_) (fun h6 => ?_)
      · have g9 : (i : Int).tdiv 9 = ((i / 9 : Nat) : Int) := (Int.ofNat_tdiv i 9).symm
        have g10 : (i : Int).tmod 9 = ((i % 9 : Nat) : Int) := (Int.ofNat_tmod i 9).symm
        have hset := chunks_set (D := dgs (bts s)) (i := i) (by omega)
        have hcl := chunk_lt (hok.take i) (i / 9)
        have hcl2 := chunk_lt (hok.take (i + 1)) (i / 9)
        rw [chunk_step (by omega)] at hcl2
        have hu0 := chunks_getD (D := (dgs (bts s)).take i) (Nat.lt_succ_self (i / 9))
        have hul := chunks_length ((dgs (bts s)).take i) (i / 9 + 1)
        have hul2 := chunks_length ((dgs (bts s)).take (i + 1)) (i / 9 + 1)
        have hd := isD_iff.1 (hg (s.size - 1 - i) (by omega))
        rw [hDg i (by omega)] at hset hcl2
        have hBB : BB = 1000000000 := rfl
        have ek : (i + 1 + 8) / 9 = i / 9 + 1 := by omega
        have hlen := congrArg List.length hli
        rw [chunks_length] at hlen
        have hk9 : i % 9 < 9 := Nat.mod_lt _ (by decide)
        have hadd : i % 9 = 0 → l ++ [0] = chunks ((dgs (bts s)).take i) (i / 9 + 1) := fun h0 => by
          rw [hli, show (i + 8) / 9 = i / 9 by omega]
          exact chunks_add (by rw [List.length_take]; omega)
        have hsame : i % 9 ≠ 0 → l = chunks ((dgs (bts s)).take i) (i / 9 + 1) := fun h0 => by
          rw [hli, show (i + 8) / 9 = i / 9 + 1 by omega]
        have hln : i % 9 = 0 → l.length = i / 9 := fun h0 => by omega
        have hiN : i = 9 * (i / 9) + i % 9 := by omega
        have hpk := pw_at (i % 9) hk9
        have hpp : (10 : Nat) ^ (i % 9) ≤ 100000000 := Nat.pow_le_pow_right (n := 10) (i := i % 9) (j := 8) (by decide) (by omega)
        repeat' ((conv => whnf); first | refine ngo ?_ | refine VB.tt ?_ | refine VB.ff ?_ | refine VNew.keep ?_ | refine dgo ?_ | refine sgo ?_ | fail)
        conv => whnf
        rw [g10]
        generalize hu2 : chunks ((dgs (bts s)).take (i + 1)) (i / 9 + 1) = u2 at *
        generalize chunk ((dgs (bts s)).take i) (i / 9) = c at *
        generalize hu : chunks ((dgs (bts s)).take i) (i / 9 + 1) = u at *
        generalize hdd : (bts s).getD (s.size - 1 - i) 0 = d at *
        generalize i / 9 = j at *
        generalize (10 : Nat) ^ (i % 9) = pw at *
        generalize i % 9 = k at *
        refine VB.eq (fun h7 => ?_) (fun h7 => ?_)
        · have hadd := hadd (by omega)
          have hln := hln (by omega)
          cases l with
          | nil =>
            obtain rfl : [0] = u := hadd
            obtain rfl : j = 0 := by simp at hul; omega
            repeat' ((conv => whnf); first | refine ngo ?_ | refine VB.tt ?_ | refine VB.ff ?_ | refine VNew.keep ?_ | refine dgo ?_ | refine sgo ?_ | fail)
            conv => whnf
            refine VDraw.meets (s0 := ⟨[(0, .str s), (3, .ptr 0 0 0), (5, .osl 2 0 0 1 1), (6, .int .i64 i), (43, .int .i64 s.size), (44, .int .i64 i)], [.cells 0 40 [.int .i64 0, .int .i64 0], .cells 0 30 [.int .u32 0], .cells 0 30 (limbs [0])], []⟩) ?_ ⟨⟨rfl, rfl, rfl, rfl, rfl, rfl, trivial⟩, rfl, rfl⟩
            refine VDraw.t true 21 mixed (by kernel_rfl) (by kernel_rfl) ?_
            have eix : ((s.size : Int) - 1 - (i : Int)).toNat = s.size - 1 - i := by omega
            repeat' ((conv => whnf); first | refine ngo ?_ | refine VB.tt ?_ | refine VB.ff ?_ | refine VNew.keep ?_ | refine dgo ?_ | refine sgo ?_ | fail)
            conv => whnf
            rw [eix, strAt_bts, hdd, g9, Int.toNat_natCast, Nat.zero_add, Nat.mul_one, getInt_limbs, hu0]
            repeat' ((conv => whnf); first | refine ngo ?_ | refine VB.tt ?_ | refine VB.ff ?_ | refine VNew.keep ?_ | refine dgo ?_ | refine sgo ?_ | fail)
            conv => whnf
            rw [g10, Int.toNat_natCast, Nat.mul_one]
            refine ⟨IntAt.limbs (by simp only [List.length_cons, List.length_nil]; omega), ?_⟩
            conv => whnf
            rw [getInt_limbs, hpk]
            have hmul : ((d : Int) - 48) * (pw : Int) = (((d - 48) * pw : Nat) : Int) := by
              rw [show (d : Int) - 48 = ((d - 48 : Nat) : Int) by omega]; rfl
            rw [hmul]
            generalize (d - 48) * pw = q at *
            repeat' ((conv => whnf); first | refine ngo ?_ | refine VB.tt ?_ | refine VB.ff ?_ | refine VNew.keep ?_ | refine dgo ?_ | refine sgo ?_ | fail)
            conv => whnf
            obtain ⟨z, u3, rfl⟩ : ∃ z u3, u2 = z :: u3 := by
              cases u2 with
              | nil => simp at hul2
              | cons z u3 => exact ⟨z, u3, rfl⟩
            have hul3 : u3.length = 0 := by simpa using hul2
            refine ⟨(z :: u3, i + 1), ⟨by dsimp only; rw [ek]; exact hu2.symm, by dsimp only; omega⟩, by dsimp only; omega, [2], by simp, by simp, ⟨⟨_, rfl, .cells rfl (FzL.same rfl ⟨trivial, trivial, trivial⟩)⟩, ⟨_, rfl, .cells (by omega) (FzL.same ?_ (low_limbs _ (z :: u3)))⟩, trivial⟩, ⟨⟨_, rfl, .same rfl trivial⟩, ⟨_, rfl, .same rfl Nat.zero_lt_one⟩, ⟨_, rfl, .kosl (j := 0) rfl rfl (by omega) (by omega)⟩, ⟨_, rfl, .same rfl trivial⟩, ⟨_, rfl, .same (by simp) trivial⟩, trivial⟩, rfl, by simp⟩
            have hsp := splice_limbs (l := [0]) (i := 0) (by omega) (c + q)
            rw [Int.natCast_add, hset] at hsp
            simp only [Int.toNat_natCast, Nat.mul_one, Nat.zero_add]
            exact hsp
          | cons y l =>
            simp only [List.length_cons] at hln
            repeat' ((conv => whnf); first | refine ngo ?_ | refine VB.tt ?_ | refine VB.ff ?_ | refine VNew.keep ?_ | refine dgo ?_ | refine sgo ?_ | fail)
            conv => whnf
            refine VDraw.meets (s0 := ⟨[(0, .str s), (3, .ptr 0 0 0), (5, .osl 1 (l.length + 1) 0 (l.length + 1 + 1) 1), (6, .int .i64 i), (43, .int .i64 s.size), (44, .int .i64 i)], [.cells 0 40 [.int .i64 0, .int .i64 0], .cells (l.length + 1) 30 (limbs u), .cells 0 30 [.int .u32 0]], []⟩) ?_ ⟨⟨rfl, rfl, rfl, rfl, rfl, rfl, trivial⟩, ?_, rfl⟩
            rotate_left
            · rw [← hadd]; simp [limbs]; exact List.take_of_length_le (by simp)
            refine VDraw.t true 21 mixed (by kernel_rfl) (by kernel_rfl) ?_
            have eix : ((s.size : Int) - 1 - (i : Int)).toNat = s.size - 1 - i := by omega
            repeat' ((conv => whnf); first | refine ngo ?_ | refine VB.tt ?_ | refine VB.ff ?_ | refine VNew.keep ?_ | refine dgo ?_ | refine sgo ?_ | fail)
            conv => whnf
            rw [eix, strAt_bts, hdd, g9, Int.toNat_natCast, Nat.zero_add, Nat.mul_one, getInt_limbs, hu0]
            repeat' ((conv => whnf); first | refine ngo ?_ | refine VB.tt ?_ | refine VB.ff ?_ | refine VNew.keep ?_ | refine dgo ?_ | refine sgo ?_ | fail)
            conv => whnf
            rw [g10, Int.toNat_natCast, Nat.mul_one]
            refine ⟨IntAt.limbs (by simp only [List.length_cons, List.length_nil]; omega), ?_⟩
            conv => whnf
            rw [getInt_limbs, hpk]
            have hmul : ((d : Int) - 48) * (pw : Int) = (((d - 48) * pw : Nat) : Int) := by
              rw [show (d : Int) - 48 = ((d - 48 : Nat) : Int) by omega]; rfl
            rw [hmul]
            generalize (d - 48) * pw = q at *
            repeat' ((conv => whnf); first | refine ngo ?_ | refine VB.tt ?_ | refine VB.ff ?_ | refine VNew.keep ?_ | refine dgo ?_ | refine sgo ?_ | fail)
            conv => whnf
            obtain ⟨z, u3, rfl⟩ : ∃ z u3, u2 = z :: u3 := by
              cases u2 with
              | nil => simp at hul2
              | cons z u3 => exact ⟨z, u3, rfl⟩
            have hul3 : u3.length = j := by simpa using hul2
            refine ⟨(z :: u3, i + 1), ⟨by dsimp only; rw [ek]; exact hu2.symm, by dsimp only; omega⟩, by dsimp only; omega, [1], by simp, by simp, ⟨⟨_, rfl, .cells rfl (FzL.same rfl ⟨trivial, trivial, trivial⟩)⟩, ⟨_, rfl, .cells (by omega) (FzL.same ?_ (low_limbs _ (z :: u3)))⟩, trivial⟩, ⟨⟨_, rfl, .same rfl trivial⟩, ⟨_, rfl, .same rfl Nat.zero_lt_one⟩, ⟨_, rfl, .kosl (j := 0) rfl rfl (by omega) (by omega)⟩, ⟨_, rfl, .same rfl trivial⟩, ⟨_, rfl, .same (by simp) trivial⟩, trivial⟩, rfl, by simp⟩
            have hsp := splice_limbs (l := u) (i := j) (by omega) (c + q)
            rw [Int.natCast_add, hset] at hsp
            simp only [Int.toNat_natCast, Nat.mul_one, Nat.zero_add]
            exact hsp
        · have hsame := hsame (by omega)
          cases l with
          | nil => simp [← hsame] at hul
          | cons y l =>
            have hln2 : l.length = j := by rw [← hsame, List.length_cons] at hul; omega
            repeat' ((conv => whnf); first | refine ngo ?_ | refine VB.tt ?_ | refine VB.ff ?_ | refine VNew.keep ?_ | refine dgo ?_ | refine sgo ?_ | fail)
            conv => whnf
            refine VDraw.meets (s0 := ⟨[(0, .str s), (3, .ptr 0 0 0), (5, .osl 1 l.length 0 (l.length + 1) 1), (6, .int .i64 i), (43, .int .i64 s.size), (44, .int .i64 i)], [.cells 0 40 [.int .i64 0, .int .i64 0], .cells l.length 30 (limbs u)], []⟩) ?_ ⟨⟨rfl, rfl, rfl, rfl, rfl, rfl, trivial⟩, ?_, rfl⟩
            rotate_left
            · rw [← hsame]; rfl
            refine VDraw.t true 21 mixed (by kernel_rfl) (by kernel_rfl) ?_
            have eix : ((s.size : Int) - 1 - (i : Int)).toNat = s.size - 1 - i := by omega
            repeat' ((conv => whnf); first | refine ngo ?_ | refine VB.tt ?_ | refine VB.ff ?_ | refine VNew.keep ?_ | refine dgo ?_ | refine sgo ?_ | fail)
            conv => whnf
            rw [eix, strAt_bts, hdd, g9, Int.toNat_natCast, Nat.zero_add, Nat.mul_one, getInt_limbs, hu0]
            repeat' ((conv => whnf); first | refine ngo ?_ | refine VB.tt ?_ | refine VB.ff ?_ | refine VNew.keep ?_ | refine dgo ?_ | refine sgo ?_ | fail)
            conv => whnf
            rw [g10, Int.toNat_natCast, Nat.mul_one]
            refine ⟨IntAt.limbs (by simp only [List.length_cons, List.length_nil]; omega), ?_⟩
            conv => whnf
            rw [getInt_limbs, hpk]
            have hmul : ((d : Int) - 48) * (pw : Int) = (((d - 48) * pw : Nat) : Int) := by
              rw [show (d : Int) - 48 = ((d - 48 : Nat) : Int) by omega]; rfl
            rw [hmul]
            generalize (d - 48) * pw = q at *
            repeat' ((conv => whnf); first | refine ngo ?_ | refine VB.tt ?_ | refine VB.ff ?_ | refine VNew.keep ?_ | refine dgo ?_ | refine sgo ?_ | fail)
            conv => whnf
            obtain ⟨z, u3, rfl⟩ : ∃ z u3, u2 = z :: u3 := by
              cases u2 with
              | nil => simp at hul2
              | cons z u3 => exact ⟨z, u3, rfl⟩
            have hul3 : u3.length = j := by simpa using hul2
            refine ⟨(z :: u3, i + 1), ⟨by dsimp only; rw [ek]; exact hu2.symm, by dsimp only; omega⟩, by dsimp only; omega, [1], by simp, by simp, ⟨⟨_, rfl, .cells rfl (FzL.same rfl ⟨trivial, trivial, trivial⟩)⟩, ⟨_, rfl, .cells (by omega) (FzL.same ?_ (low_limbs _ (z :: u3)))⟩, trivial⟩, ⟨⟨_, rfl, .same rfl trivial⟩, ⟨_, rfl, .same rfl Nat.zero_lt_one⟩, ⟨_, rfl, .kosl (j := 0) rfl rfl (by omega) (by omega)⟩, ⟨_, rfl, .same rfl trivial⟩, ⟨_, rfl, .same (by simp) trivial⟩, trivial⟩, rfl, by simp⟩
            have hsp := splice_limbs (l := u) (i := j) (by omega) (c + q)
            rw [Int.natCast_add, hset] at hsp
            simp only [Int.toNat_natCast, Nat.mul_one, Nat.zero_add]
            exact hsp
      · obtain rfl : i = s.size := by omega
        rw [List.take_of_length_le (by omega)] at hli
        have hvl : val l = Dec.val (dgs (bts s)) := by rw [hli, val_chunks, List.take_of_length_le (by omega)]
        repeat' ((conv => whnf); first | refine ngo ?_ | refine VB.tt ?_ | refine VB.ff ?_ | refine VNew.keep ?_ | refine dgo ?_ | refine sgo ?_ | fail)
        conv => whnf
        rw [str_eq]
        by_cases h8 : bts s = bts ⟨#[48]⟩
        · rw [decide_eq_true h8]
          cases l with
          | nil =>
            repeat' ((conv => whnf); first | refine ngo ?_ | refine VB.tt ?_ | refine VB.ff ?_ | refine VNew.keep ?_ | refine dgo ?_ | refine sgo ?_ | fail)
            conv => whnf
            rw [h8, show Dec.val (dgs (bts ⟨#[48]⟩)) = 0 from rfl]
            repeat' (first | exact fz_nil0 | exact Fz.nsl | exact Fz.same rfl (by repeat' (first | exact trivial | exact low_natL 0 _ | exact low_limbs 0 _ | refine And.intro ?_ ?_ | fail)) | refine Fz.tup ?_ | refine FzL.cons ?_ ?_ | exact FzL.nil | fail)
          | cons y l =>
            repeat' ((conv => whnf); first | refine ngo ?_ | refine VB.tt ?_ | refine VB.ff ?_ | refine VNew.keep ?_ | refine dgo ?_ | refine sgo ?_ | fail)
            conv => whnf
            rw [h8, show Dec.val (dgs (bts ⟨#[48]⟩)) = 0 from rfl]
            repeat' (first | exact fz_nil0 | exact Fz.nsl | exact Fz.same rfl (by repeat' (first | exact trivial | exact low_natL 0 _ | exact low_limbs 0 _ | refine And.intro ?_ ?_ | fail)) | refine Fz.tup ?_ | refine FzL.cons ?_ ?_ | exact FzL.nil | fail)
        · rw [decide_eq_false h8]
          have hcan := canon_chunks hok (by omega) (by
            rw [dgs_last hg (by omega)]
            intro h9
            have h10 := isD_iff.1 (hg 0 (by omega))
            have h11 : s.size = 1 := by omega
            apply h8
            obtain ⟨x, hx⟩ := List.length_eq_one_iff.1 (hl.trans h11)
            rw [hx] at h9 h10
            rw [hx]
            obtain rfl : x = 48 := by simp at h9 h10; omega
            rfl)
          rw [hDl, ← hli] at hcan
          have hdl := dg_val hcan
          rw [hvl] at hdl
          cases l with
          | nil =>
            repeat' ((conv => whnf); first | refine ngo ?_ | refine VB.tt ?_ | refine VB.ff ?_ | refine VNew.keep ?_ | refine dgo ?_ | refine sgo ?_ | fail)
            conv => whnf
            rw [← hvl]
            repeat' (first | exact fz_nil0 | exact Fz.nsl | exact Fz.same rfl (by repeat' (first | exact trivial | exact low_natL 0 _ | exact low_limbs 0 _ | refine And.intro ?_ ?_ | fail)) | refine Fz.tup ?_ | refine FzL.cons ?_ ?_ | exact FzL.nil | fail)
          | cons y l =>
            repeat' ((conv => whnf); first | refine ngo ?_ | refine VB.tt ?_ | refine VB.ff ?_ | refine VNew.keep ?_ | refine dgo ?_ | refine sgo ?_ | fail)
            conv => whnf
            refine .tup (.cons ?_ (.cons (.same rfl ⟨trivial, trivial, trivial⟩) .nil))
            refine Fz.nat (l := dg (Dec.val (dgs (bts s)))) (Nat.zero_le _) (by simp) rfl ?_ (by rw [hdl]; rfl)
            rw [hdl, Nat.mul_one]
            exact List.take_of_length_le (by simp [limbs])
end Go.Proofs.YtcdnonggajoghaaDoor


/- Contracts: the reference's texts. -/
namespace Go.Proofs.YtcdnonggajoghaaDoor
open Go Go.RowKit
set_option linter.unusedVariables false
set_option linter.unusedSimpArgs false
set_option maxRecDepth 100000

def baccV : List Nat → AV
  | [] => .nsl
  | x :: l => .osl 0 l.length 0 (l.length + 1) 1
def baccH : List Nat → Heap
  | [] => []
  | x :: l => [.cells l.length 5 (bl (x :: l))]

/-- The bytes of a text. -/
def asc (o : List Nat) : List Nat := o.map fun d => 48 + d
def txtL (n : Nat) : List Nat := if n = 0 then [48] else asc (Dec.dg n).reverse
def txt (n : Nat) : ByteArray := strOfNums ((txtL n).map fun (n : Nat) => (n : Int))
def textR (l : List Nat) : AV := if chk l = 0 then .tup [.str (txt (val l)), .int .i64 0] else .tup [.str .empty, .int .i64 (chk l)]

theorem pow9 (i : Nat) : 10 ^ (9 * i) = BB ^ i := by rw [Nat.pow_mul]
theorem asc_append (o p : List Nat) : asc (o ++ p) = asc o ++ asc p := by simp [asc]
theorem asc_length (o : List Nat) : (asc o).length = o.length := by simp [asc]


/-- The first m bytes, after i swaps of their ends. -/
def rp (E : List Nat) (m i : Nat) : List Nat := (List.range E.length).map fun j => if (j < i ∨ m - i ≤ j) ∧ j < m then E.getD (m - 1 - j) 0 else E.getD j 0
theorem rp_length (E : List Nat) (m i : Nat) : (rp E m i).length = E.length := by simp [rp]
theorem rp_getD {E : List Nat} {m i j : Nat} (h : j < E.length) : (rp E m i).getD j 0 = if (j < i ∨ m - i ≤ j) ∧ j < m then E.getD (m - 1 - j) 0 else E.getD j 0 := by
  simp [rp, List.getD_eq_getElem?_getD, h]
theorem ext_getD {a b : List Nat} (hl : a.length = b.length) (h : ∀ j, j < a.length → a.getD j 0 = b.getD j 0) : a = b := by
  apply List.ext_getElem hl
  intro j h1 h2
  have := h j h1
  simpa [List.getD_eq_getElem?_getD, h1, h2] using this
theorem set_getD (l : List Nat) (i j x : Nat) (h : i < l.length) : (l.set i x).getD j 0 = if i = j then x else l.getD j 0 := by
  simp only [List.getD_eq_getElem?_getD, List.getElem?_set]
  split
  · rename_i e; subst e; simp [h]
  · rfl
theorem rp_zero (E : List Nat) (m : Nat) : rp E m 0 = E := by
  refine ext_getD (rp_length _ _ _) fun j hj => ?_
  rw [rp_length] at hj
  rw [rp_getD hj, if_neg (by omega)]
theorem rp_succ {E : List Nat} {m i : Nat} (hm : m ≤ E.length) (hi : i < m - 1 - i) : ((rp E m i).set i ((rp E m i).getD (m - 1 - i) 0)).set (m - 1 - i) ((rp E m i).getD i 0) = rp E m (i + 1) := by
  refine ext_getD (by simp [rp_length]) fun j hj => ?_
  have hj : j < E.length := by simpa [rp_length] using hj
  rw [set_getD _ _ _ _ (by rw [List.length_set, rp_length]; omega), set_getD _ _ _ _ (by rw [rp_length]; omega), rp_getD hj, rp_getD (by omega), rp_getD (by omega), rp_getD hj]
  by_cases h1 : m - 1 - i = j
  · subst h1
    rw [if_pos rfl, if_neg (by omega), if_pos (by omega)]
    congr 1
    omega
  · rw [if_neg h1]
    by_cases h2 : i = j
    · subst h2
      rw [if_pos rfl, if_neg (by omega), if_pos (by omega)]
    · rw [if_neg h2]
      by_cases h3 : (j < i ∨ m - i ≤ j) ∧ j < m
      · rw [if_pos h3, if_pos (by omega)]
      · rw [if_neg h3, if_neg (by omega)]
theorem rp_end {E : List Nat} {m i : Nat} (hm : m ≤ E.length) (hi : m ≤ 2 * i + 1) (hi2 : 2 * i ≤ m) : (rp E m i).take m = (E.take m).reverse := by
  refine ext_getD (by simp [rp_length]) fun j hj => ?_
  have hj : j < m := by simp [rp_length] at hj; omega
  have e1 : ((rp E m i).take m).getD j 0 = (rp E m i).getD j 0 := by simp [List.getD_eq_getElem?_getD, List.getElem?_take, hj]
  have e2 : (E.take m).reverse.getD j 0 = E.getD (m - 1 - j) 0 := by
    rw [List.getD_eq_getElem?_getD, List.getElem?_reverse (by rw [List.length_take]; omega), List.length_take, Nat.min_eq_left hm, List.getElem?_take, if_pos (by omega), ← List.getD_eq_getElem?_getD]
  rw [e1, e2, rp_getD (by omega)]
  split
  · rfl
  · congr 1
    omega

/-- Bytes so far: the digits of a number. -/
def Part (u : List Nat) (n v : Nat) : Prop := ∃ d, u = asc d ∧ d.length = n ∧ Dec.okL d ∧ Dec.val d = v
theorem Part.len {u : List Nat} {n v : Nat} (h : Part u n v) : u.length = n := by obtain ⟨d, rfl, h, _⟩ := h; rw [asc_length, h]
theorem Part.step {u : List Nat} {i k x v V : Nat} (h : Part u (9 * i + k) v) (hx : x * 10 ^ k < BB) (hv : v + BB ^ i * 10 ^ k * x = V) :
    Part (u ++ [48 + x % 10]) (9 * i + (k + 1)) (v + BB ^ i * 10 ^ k * (x % 10)) ∧ x / 10 * 10 ^ (k + 1) < BB ∧ v + BB ^ i * 10 ^ k * (x % 10) + BB ^ i * 10 ^ (k + 1) * (x / 10) = V := by
  obtain ⟨d, rfl, hl, hd, rfl⟩ := h
  have hm : x % 10 + 10 * (x / 10) = x := Nat.mod_add_div x 10
  have e1 : Dec.BB ^ (9 * i + k) = BB ^ i * 10 ^ k := by rw [Nat.pow_add, ← pow9]
  refine ⟨⟨d ++ [x % 10], by rw [asc_append]; rfl, by rw [List.length_append, hl]; rfl, Dec.okL_append.2 ⟨hd, by intro y hy; rw [List.mem_singleton.1 hy]; exact Nat.mod_lt _ (by decide)⟩, ?_⟩, ?_, ?_⟩
  · rw [Dec.val_append, hl, e1]
    simp [Dec.val]
  · rw [Nat.pow_succ, Nat.mul_comm (10 ^ k) 10, ← Nat.mul_assoc]
    exact Nat.lt_of_le_of_lt (Nat.mul_le_mul_right _ (by omega)) hx
  · rw [← hv]
    have e3 : ∀ p : Nat, p * x = p * (x % 10) + p * 10 * (x / 10) := fun p => by
      conv => lhs; rw [← hm]
      rw [Nat.mul_add, Nat.mul_assoc]
    rw [Nat.pow_succ, e3, ← Nat.mul_assoc, Nat.add_assoc]


set_option maxHeartbeats 4000000 in
theorem rtext_c (l : List Nat) (ll : l.length < 1000000000000000000) : VCall EE 28 [natL l] [] fun v H => v = textR l := by
  refine VCall.of_body true Tryd.func28 rfl (by decide) rfl ?_
  repeat' ((conv => whnf); first | refine ngo ?_ | refine VB.tt ?_ | refine VB.ff ?_ | refine VNew.keep ?_ | refine dgo ?_ | refine sgo ?_ | fail)
  conv => whnf
  refine VCall.s (rcheck_c l ll) ?_
  repeat' ((conv => whnf); first | refine ngo ?_ | refine VB.tt ?_ | refine VB.ff ?_ | refine VNew.keep ?_ | refine dgo ?_ | refine sgo ?_ | fail)
  conv => whnf
  refine VB.ne (fun h => ?_) (fun h => ?_)
  · repeat' ((conv => whnf); first | refine ngo ?_ | refine VB.tt ?_ | refine VB.ff ?_ | refine VNew.keep ?_ | refine dgo ?_ | refine sgo ?_ | fail)
    conv => whnf
    rw [textR, if_neg h]
    rfl
  · obtain ⟨hc, h1⟩ := chk_zero h
    have hBB : BB = 1000000000 := rfl
    repeat' ((conv => whnf); first | refine ngo ?_ | refine VB.tt ?_ | refine VB.ff ?_ | refine VNew.keep ?_ | refine dgo ?_ | refine sgo ?_ | fail)
    conv => whnf
    refine VLoop.tr true (fun x : Nat × List Nat => ⟨[(0, natL l), (5, baccV x.2), (6, .int .i64 x.1)], baccH x.2, []⟩) (fun x => x.1 ≤ l.length ∧ Part x.2 (9 * x.1) (val (l.take x.1))) (fun x => l.length - x.1) (0, []) ⟨Nat.zero_le _, [], rfl, rfl, by simp [Dec.okL], rfl⟩ ⟨⟨rfl, rfl, rfl, trivial⟩, rfl, rfl⟩ ?_
    rintro ⟨i, o⟩ ⟨hi, hp⟩
    dsimp only at hi hp ⊢
    repeat' ((conv => whnf); first | refine ngo ?_ | refine VB.tt ?_ | refine VB.ff ?_ | refine VNew.keep ?_ | refine dgo ?_ | refine sgo ?_ | fail)
    conv => whnf
    refine VB.dec (fun h2 => ?_) (fun h2 => ?_)
    · repeat' ((conv => whnf); first | refine ngo ?_ | refine VB.tt ?_ | refine VB.ff ?_ | refine VNew.keep ?_ | refine dgo ?_ | refine sgo ?_ | fail)
      conv => whnf
      rw [Int.toNat_natCast, Nat.mul_one, getInt_limbs]
      repeat' ((conv => whnf); first | refine ngo ?_ | refine VB.tt ?_ | refine VB.ff ?_ | refine VNew.keep ?_ | refine dgo ?_ | refine sgo ?_ | fail)
      conv => whnf
      have hx0 : l.getD i 0 < 1000000000 := hc.1 _ (by simp [List.getD_eq_getElem?_getD, show i < l.length by omega])
      cases o with
      | nil =>
        have ho := Part.len hp
        refine VLoop.tr true (fun y : Nat × Nat × List Nat => ⟨[(0, natL l), (5, baccV y.2.2), (6, .int .i64 i), (7, .int .u32 y.2.1), (8, .int .i64 y.1)], baccH y.2.2, []⟩)
          (fun y => y.1 ≤ 9 ∧ (fun u:List Nat=>u=u) y.2.2 ∧ y.2.1 * 10 ^ y.1 < BB ∧ ∃ v, Part y.2.2 (9 * i + y.1) v ∧ v + BB ^ i * 10 ^ y.1 * y.2.1 = val (l.take (i + 1))) (fun y => 9 - y.1) (0, l.getD i 0, [])
          ⟨by omega, by simp, by dsimp only; rw [hBB]; omega, _, hp, by dsimp only; rw [val_take_succ (by omega)]; simp⟩ ⟨⟨rfl, rfl, rfl, rfl, rfl, trivial⟩, rfl, rfl⟩ ?_
        clear hp ho
        rintro ⟨k, x, u⟩ ⟨hk, hu, hx, v, hp, hv⟩
        dsimp only at hk hu hx hp hv ⊢
        have ho := Part.len hp
        repeat' ((conv => whnf); first | refine ngo ?_ | refine VB.tt ?_ | refine VB.ff ?_ | refine VNew.keep ?_ | refine dgo ?_ | refine sgo ?_ | fail)
        conv => whnf
        refine VB.dec (fun h3 => ?_) (fun h3 => ?_)
        · have g5 : ((x : Int)).tdiv 10 = ((x / 10 : Nat) : Int) := (Int.ofNat_tdiv x 10).symm
          have g6 : ((x : Int)).tmod 10 = ((x % 10 : Nat) : Int) := (Int.ofNat_tmod x 10).symm
          have hxb : x < 1000000000 := by
            have : x * 1 ≤ x * 10 ^ k := Nat.mul_le_mul_left _ (Nat.pow_pos (by decide))
            omega
          have st := Part.step hp hx hv
          have hm10 := Nat.mod_lt x (show 10 > 0 by decide)
          have hq10 : x / 10 ≤ x := Nat.div_le_self _ _
          generalize x / 10 = q at *
          generalize x % 10 = m at *
          cases u with
          | nil =>
            repeat' ((conv => whnf); first | refine ngo ?_ | refine VB.tt ?_ | refine VB.ff ?_ | refine VNew.keep ?_ | refine dgo ?_ | refine sgo ?_ | fail)
            conv => whnf
            rw [g6]
            repeat' ((conv => whnf); first | refine ngo ?_ | refine VB.tt ?_ | refine VB.ff ?_ | refine VNew.keep ?_ | refine dgo ?_ | refine sgo ?_ | fail)
            conv => whnf
            refine ⟨(k + 1, q, [48 + m]), ⟨by dsimp only; omega, rfl, st.2.1, _, st.1, st.2.2⟩, by dsimp only; omega, [1], by simp, by simp [baccH], ?_, ?_, rfl, by simp⟩
            · conv => whnf
              exact ⟨⟨_, rfl, .cells rfl (FzL.same rfl (low_bl _ [48 + m]))⟩, trivial⟩
            · exact ⟨⟨_, rfl, .same rfl (low_natL _ _)⟩, ⟨_, rfl, .kosl (j := 0) rfl rfl rfl rfl⟩, ⟨_, rfl, .same rfl trivial⟩, ⟨_, rfl, .same (by rw [g5]) trivial⟩, ⟨_, rfl, .same (by simp) trivial⟩, trivial⟩
          | cons y u =>
            simp only [List.length_cons] at ho
            repeat' ((conv => whnf); first | refine ngo ?_ | refine VB.tt ?_ | refine VB.ff ?_ | refine VNew.keep ?_ | refine dgo ?_ | refine sgo ?_ | fail)
            conv => whnf
            rw [g6]
            repeat' ((conv => whnf); first | refine ngo ?_ | refine VB.tt ?_ | refine VB.ff ?_ | refine VNew.keep ?_ | refine dgo ?_ | refine sgo ?_ | fail)
            conv => whnf
            refine ⟨(k + 1, q, y :: u ++ [48 + m]), ⟨by dsimp only; omega, rfl, st.2.1, _, st.1, st.2.2⟩, by dsimp only; omega, [0], by simp, by simp [baccH], ?_, ?_, rfl, by simp⟩
            · conv => whnf
              exact ⟨⟨_, rfl, .cells (by simp) (FzL.same (by rw [Nat.mul_one, List.take_of_length_le (by simp [bl])]; simp [bl]) (low_bl _ (y :: u ++ [48 + m])))⟩, trivial⟩
            · exact ⟨⟨_, rfl, .same rfl (low_natL _ _)⟩, ⟨_, rfl, .kosl (j := 0) rfl rfl (by simp) (by simp)⟩, ⟨_, rfl, .same rfl trivial⟩, ⟨_, rfl, .same (by rw [g5]) trivial⟩, ⟨_, rfl, .same (by simp) trivial⟩, trivial⟩
        · have hk9 : k = 9 := by omega
          subst hk9
          have hx0 : x = 0 := by
            have h5 : (10 : Nat) ^ 9 = 1000000000 := rfl
            omega
          subst hx0
          clear hx
          rw [Nat.mul_zero, Nat.add_zero] at hv
          subst hv
          cases u with
          | nil => simp at ho
          | cons y u =>
            repeat' ((conv => whnf); first | refine ngo ?_ | refine VB.tt ?_ | refine VB.ff ?_ | refine VNew.keep ?_ | refine dgo ?_ | refine sgo ?_ | fail)
            conv => whnf
            refine ⟨(i + 1, y :: u), ⟨by dsimp only; omega, by dsimp only; rw [Nat.mul_add]; exact hp⟩, by dsimp only; omega, [0], by simp, by simp, ?_, ?_, rfl, by simp⟩
            · conv => whnf
              exact ⟨⟨_, rfl, .cells rfl (FzL.same rfl (low_bl _ (y :: u)))⟩, trivial⟩
            · exact ⟨⟨_, rfl, .same rfl (low_natL _ _)⟩, ⟨_, rfl, .kosl (j := 0) rfl rfl rfl rfl⟩, ⟨_, rfl, .same (by simp) trivial⟩, trivial⟩
      | cons y0 o =>
        have ho := Part.len hp
        refine VLoop.tr true (fun y : Nat × Nat × List Nat => ⟨[(0, natL l), (5, baccV y.2.2), (6, .int .i64 i), (7, .int .u32 y.2.1), (8, .int .i64 y.1)], baccH y.2.2, []⟩)
          (fun y => y.1 ≤ 9 ∧ (fun u:List Nat=>u≠[]) y.2.2 ∧ y.2.1 * 10 ^ y.1 < BB ∧ ∃ v, Part y.2.2 (9 * i + y.1) v ∧ v + BB ^ i * 10 ^ y.1 * y.2.1 = val (l.take (i + 1))) (fun y => 9 - y.1) (0, l.getD i 0, (y0::o))
          ⟨by omega, by simp, by dsimp only; rw [hBB]; omega, _, hp, by dsimp only; rw [val_take_succ (by omega)]; simp⟩ ⟨⟨rfl, rfl, rfl, rfl, rfl, trivial⟩, rfl, rfl⟩ ?_
        clear hp ho
        rintro ⟨k, x, u⟩ ⟨hk, hu, hx, v, hp, hv⟩
        dsimp only at hk hu hx hp hv ⊢
        have ho := Part.len hp
        repeat' ((conv => whnf); first | refine ngo ?_ | refine VB.tt ?_ | refine VB.ff ?_ | refine VNew.keep ?_ | refine dgo ?_ | refine sgo ?_ | fail)
        conv => whnf
        refine VB.dec (fun h3 => ?_) (fun h3 => ?_)
        · have g5 : ((x : Int)).tdiv 10 = ((x / 10 : Nat) : Int) := (Int.ofNat_tdiv x 10).symm
          have g6 : ((x : Int)).tmod 10 = ((x % 10 : Nat) : Int) := (Int.ofNat_tmod x 10).symm
          have hxb : x < 1000000000 := by
            have : x * 1 ≤ x * 10 ^ k := Nat.mul_le_mul_left _ (Nat.pow_pos (by decide))
            omega
          have st := Part.step hp hx hv
          have hm10 := Nat.mod_lt x (show 10 > 0 by decide)
          have hq10 : x / 10 ≤ x := Nat.div_le_self _ _
          generalize x / 10 = q at *
          generalize x % 10 = m at *
          cases u with
          | nil => exact absurd rfl hu
          | cons y u =>
            simp only [List.length_cons] at ho
            repeat' ((conv => whnf); first | refine ngo ?_ | refine VB.tt ?_ | refine VB.ff ?_ | refine VNew.keep ?_ | refine dgo ?_ | refine sgo ?_ | fail)
            conv => whnf
            rw [g6]
            repeat' ((conv => whnf); first | refine ngo ?_ | refine VB.tt ?_ | refine VB.ff ?_ | refine VNew.keep ?_ | refine dgo ?_ | refine sgo ?_ | fail)
            conv => whnf
            refine ⟨(k + 1, q, y :: u ++ [48 + m]), ⟨by dsimp only; omega, by simp, st.2.1, _, st.1, st.2.2⟩, by dsimp only; omega, [], by simp, by simp, ?_, ?_, rfl, by simp⟩
            · conv => whnf
              exact ⟨⟨_, rfl, .cells (by simp) (FzL.same (by rw [Nat.mul_one, List.take_of_length_le (by simp [bl])]; simp [bl]) (low_bl _ (y :: u ++ [48 + m])))⟩, trivial⟩
            · exact ⟨⟨_, rfl, .same rfl (low_natL _ _)⟩, ⟨_, rfl, .same (by simp [baccV]) Nat.zero_lt_one⟩, ⟨_, rfl, .same rfl trivial⟩, ⟨_, rfl, .same (by rw [g5]) trivial⟩, ⟨_, rfl, .same (by simp) trivial⟩, trivial⟩
        · have hk9 : k = 9 := by omega
          subst hk9
          have hx0 : x = 0 := by
            have h5 : (10 : Nat) ^ 9 = 1000000000 := rfl
            omega
          subst hx0
          clear hx
          rw [Nat.mul_zero, Nat.add_zero] at hv
          subst hv
          cases u with
          | nil => simp at ho
          | cons y u =>
            repeat' ((conv => whnf); first | refine ngo ?_ | refine VB.tt ?_ | refine VB.ff ?_ | refine VNew.keep ?_ | refine dgo ?_ | refine sgo ?_ | fail)
            conv => whnf
            refine ⟨(i + 1, y :: u), ⟨by dsimp only; omega, by dsimp only; rw [Nat.mul_add]; exact hp⟩, by dsimp only; omega, [0], by simp, by simp, ?_, ?_, rfl, by simp⟩
            · conv => whnf
              exact ⟨⟨_, rfl, .cells rfl (FzL.same rfl (low_bl _ (y :: u)))⟩, trivial⟩
            · exact ⟨⟨_, rfl, .same rfl (low_natL _ _)⟩, ⟨_, rfl, .kosl (j := 0) rfl rfl rfl rfl⟩, ⟨_, rfl, .same (by simp) trivial⟩, trivial⟩
    · have : i = l.length := by omega
      subst this
      rw [List.take_length] at hp
      obtain ⟨d, rfl, hdl, hd, hv⟩ := hp
      rw [textR, if_pos h]
      cases d with
      | nil =>
        have hv0 : val l = 0 := hv.symm
        repeat' ((conv => whnf); first | refine ngo ?_ | refine VB.tt ?_ | refine VB.ff ?_ | refine VNew.keep ?_ | refine dgo ?_ | refine sgo ?_ | fail)
        conv => whnf
        refine VLoop.ix true (fun _ : Unit => ⟨[(5, .nsl)], [], []⟩) (fun _ => True) (fun _ => 0) () trivial ⟨⟨rfl, trivial⟩, rfl, rfl⟩ ?_
        rintro _ _
        repeat' ((conv => whnf); first | refine ngo ?_ | refine VB.tt ?_ | refine VB.ff ?_ | refine VNew.keep ?_ | refine dgo ?_ | refine sgo ?_ | fail)
        conv => whnf
        rw [hv0]
        rfl
      | cons y d =>
        obtain ⟨ver, hver⟩ : ∃ ver, ver = (asc d).length := ⟨_, rfl⟩
        obtain ⟨D, hD⟩ : ∃ D, D = y :: d := ⟨_, rfl⟩
        have hH : baccH (asc (y :: d)) = [.cells ver 5 (bl (asc D))] := by rw [hver, hD]; rfl
        have hV : baccV (asc (y :: d)) = .osl 0 ver 0 D.length 1 := by rw [hver, hD]; simp [asc, baccV]
        rw [hH, hV]
        rw [← hD] at hdl hd hv
        clear hH hV hver hD
        have hal := asc_length D
        repeat' ((conv => whnf); first | refine ngo ?_ | refine VB.tt ?_ | refine VB.ff ?_ | refine VNew.keep ?_ | refine dgo ?_ | refine sgo ?_ | fail)
        conv => whnf
        refine VLoop.ix true (fun k : Nat => ⟨[(5, .osl 0 ver 0 k 1)], [.cells ver 5 (bl (asc D))], []⟩) (fun k => k ≤ D.length ∧ Dec.val (D.take k) = Dec.val D) id D.length ⟨Nat.le_refl _, by rw [List.take_length]⟩ ⟨⟨rfl, trivial⟩, rfl, rfl⟩ ?_
        rintro k ⟨hk, hkv⟩
        repeat' ((conv => whnf); first | refine ngo ?_ | refine VB.tt ?_ | refine VB.ff ?_ | refine VNew.keep ?_ | refine dgo ?_ | refine sgo ?_ | fail)
        conv => whnf
        by_cases h0 : (k : Int) > 0
        · rw [decide_eq_true h0]
          obtain ⟨k, rfl⟩ : ∃ j, k = j + 1 := ⟨k - 1, by omega⟩
          have ek : (((k + 1 : Nat) : Int) - 1).toNat = k := by omega
          have hgd : (asc D).getD k 0 = 48 + D.getD k 0 := by simp [asc, List.getD_eq_getElem?_getD, show k < D.length by omega]
          repeat' ((conv => whnf); first | refine ngo ?_ | refine VB.tt ?_ | refine VB.ff ?_ | refine VNew.keep ?_ | refine dgo ?_ | refine sgo ?_ | fail)
          conv => whnf
          rw [ek, Nat.mul_one, Nat.zero_add, getInt_bl, hgd]
          refine VB.eq (fun h3 => ?_) (fun h3 => ?_)
          · repeat' ((conv => whnf); first | refine ngo ?_ | refine VB.tt ?_ | refine VB.ff ?_ | refine VNew.keep ?_ | refine dgo ?_ | refine sgo ?_ | fail)
            conv => whnf
            refine ⟨k, ⟨by omega, ?_⟩, by simp, ⟨⟨by simp only [lk, ek]; rfl, trivial⟩, rfl, rfl⟩⟩
            rw [Dec.val_take_succ (by omega), show D.getD k 0 = 0 by omega] at hkv
            omega
          · have hm := Dec.dg_length_of hd hk hkv (.inr (by rw [Nat.add_sub_cancel]; omega))
            have ht := Dec.take_dg hd
            rw [hm, hv] at ht
            repeat' ((conv => whnf); first | refine ngo ?_ | refine VB.tt ?_ | refine VB.ff ?_ | refine VNew.keep ?_ | refine dgo ?_ | refine sgo ?_ | fail)
            conv => whnf
            refine VLoop.ix true (fun i : Nat => ⟨[(5, .osl 0 ver 0 (k + 1) 1), (9, .int .i64 i), (10, .int .i64 (k - i))], [.cells ver 5 (bl (rp (asc D) (k + 1) i))], []⟩) (fun i => 2 * i ≤ k + 1) (fun i => k + 1 - i) 0 (by omega) ⟨⟨rfl, rfl, by simp [lk], trivial⟩, by rw [rp_zero], rfl⟩ ?_
            rintro i hi2
            have hrl := rp_length (asc D) (k + 1) i
            repeat' ((conv => whnf); first | refine ngo ?_ | refine VB.tt ?_ | refine VB.ff ?_ | refine VNew.keep ?_ | refine dgo ?_ | refine sgo ?_ | fail)
            conv => whnf
            refine VB.dec (fun h4 => ?_) (fun h4 => ?_)
            · have ei : ((k : Int) - (i : Int)).toNat = k - i := by omega
              repeat' ((conv => whnf); first | refine ngo ?_ | refine VB.tt ?_ | refine VB.ff ?_ | refine VNew.keep ?_ | refine dgo ?_ | refine sgo ?_ | fail)
              conv => whnf
              refine VDraw.xt true [0, 1, 2, 3, 4, 5, 8, 9] 8 ⟨[(5, .osl 0 ver 0 (k + 1) 1), (9, .int .i64 i), (10, .int .i64 (k - i))], [.cells ver 5 (bl (rp (asc D) (k + 1) (i + 1)))], []⟩ (fun b hb => nomatch hb) mixed (by kernel_rfl) (by kernel_rfl) (by kernel_rfl) (by kernel_rfl) ?_ ?_
              · repeat' ((conv => whnf); first | refine ngo ?_ | refine VB.tt ?_ | refine VB.ff ?_ | refine VNew.keep ?_ | refine dgo ?_ | refine sgo ?_ | fail)
                conv => whnf
                refine vall.s2 (i := 6) (i' := 10) (by kernel_rfl) (by rfl) (by rfl) ?_ ?_
                · repeat' ((conv => whnf); first | refine ngo ?_ | refine VB.tt ?_ | refine VB.ff ?_ | refine VNew.keep ?_ | refine dgo ?_ | refine sgo ?_ | fail)
                  conv => whnf
                  refine vall.s2 (i := 7) (i' := 10) (by kernel_rfl) (by rfl) (by rfl) ?_ ?_
                  · repeat' ((conv => whnf); first | refine ngo ?_ | refine VB.tt ?_ | refine VB.ff ?_ | refine VNew.keep ?_ | refine dgo ?_ | refine sgo ?_ | fail)
                    conv => whnf
                    refine vall.s1 (i := 10) (by kernel_rfl) (by rfl) ?_
                    repeat' ((conv => whnf); first | refine ngo ?_ | refine VB.tt ?_ | refine VB.ff ?_ | refine VNew.keep ?_ | refine dgo ?_ | refine sgo ?_ | fail)
                    conv => whnf
                    refine vall.s1 (i := 11) (by kernel_rfl) (by rfl) ?_
                    repeat' ((conv => whnf); first | refine ngo ?_ | refine VB.tt ?_ | refine VB.ff ?_ | refine VNew.keep ?_ | refine dgo ?_ | refine sgo ?_ | fail)
                    conv => whnf
                    refine vall.s1 (i := 12) (by kernel_rfl) (by rfl) ?_
                    repeat' ((conv => whnf); first | refine ngo ?_ | refine VB.tt ?_ | refine VB.ff ?_ | refine VNew.keep ?_ | refine dgo ?_ | refine sgo ?_ | fail)
                    conv => whnf
                    refine vall.s1 (i := 13) (by kernel_rfl) (by rfl) ?_
                    repeat' ((conv => whnf); first | refine ngo ?_ | refine VB.tt ?_ | refine VB.ff ?_ | refine VNew.keep ?_ | refine dgo ?_ | refine sgo ?_ | fail)
                    conv => whnf
                    refine vall.s1 (i := 14) (by kernel_rfl) (by rfl) ?_
                    repeat' ((conv => whnf); first | refine ngo ?_ | refine VB.tt ?_ | refine VB.ff ?_ | refine VNew.keep ?_ | refine dgo ?_ | refine sgo ?_ | fail)
                    conv => whnf
                    refine vall.s1 (i := 15) (by kernel_rfl) (by rfl) ?_
                    repeat' ((conv => whnf); first | refine ngo ?_ | refine VB.tt ?_ | refine VB.ff ?_ | refine VNew.keep ?_ | refine dgo ?_ | refine sgo ?_ | fail)
                    conv => whnf
                    refine ⟨?_, ?_⟩
                    · simp only [getInt_bl, Nat.zero_add, Nat.mul_one, ei, Int.toNat_natCast]
                      rw [splice_bl (by omega), length_bl, List.length_set, List.length_singleton]
                      omega
                    repeat' ((conv => whnf); first | refine ngo ?_ | refine VB.tt ?_ | refine VB.ff ?_ | refine VNew.keep ?_ | refine dgo ?_ | refine sgo ?_ | fail)
                    conv => whnf
                    refine ⟨[], by simp, by simp, ?_, ?_, rfl, by simp⟩
                    · conv => whnf
                      refine ⟨⟨_, rfl, .cells rfl (FzL.same ?_ (low_bl _ _))⟩, trivial⟩
                      simp only [getInt_bl, Nat.zero_add, Nat.mul_one, ei, Int.toNat_natCast]
                      rw [splice_bl (by omega), splice_bl (by rw [List.length_set]; omega), ← rp_succ (by omega) (by omega), Nat.add_sub_cancel]
                    · exact ⟨⟨_, rfl, .same rfl Nat.zero_lt_one⟩, ⟨_, rfl, .same rfl trivial⟩, ⟨_, rfl, .same rfl trivial⟩, trivial⟩
                  · repeat' ((conv => whnf); first | refine ngo ?_ | refine VB.tt ?_ | refine VB.ff ?_ | refine VNew.keep ?_ | refine dgo ?_ | refine sgo ?_ | fail)
                    conv => whnf
                    refine vall.s2 (i := 7) (i' := 11) (by kernel_rfl) (by rfl) (by rfl) ?_ ?_
                    · repeat' ((conv => whnf); first | refine ngo ?_ | refine VB.tt ?_ | refine VB.ff ?_ | refine VNew.keep ?_ | refine dgo ?_ | refine sgo ?_ | fail)
                      conv => whnf
                      refine vall.s1 (i := 11) (by kernel_rfl) (by rfl) ?_
                      repeat' ((conv => whnf); first | refine ngo ?_ | refine VB.tt ?_ | refine VB.ff ?_ | refine VNew.keep ?_ | refine dgo ?_ | refine sgo ?_ | fail)
                      conv => whnf
                      refine vall.s1 (i := 12) (by kernel_rfl) (by rfl) ?_
                      repeat' ((conv => whnf); first | refine ngo ?_ | refine VB.tt ?_ | refine VB.ff ?_ | refine VNew.keep ?_ | refine dgo ?_ | refine sgo ?_ | fail)
                      conv => whnf
                      refine vall.s1 (i := 13) (by kernel_rfl) (by rfl) ?_
                      repeat' ((conv => whnf); first | refine ngo ?_ | refine VB.tt ?_ | refine VB.ff ?_ | refine VNew.keep ?_ | refine dgo ?_ | refine sgo ?_ | fail)
                      conv => whnf
                      refine vall.s1 (i := 14) (by kernel_rfl) (by rfl) ?_
                      repeat' ((conv => whnf); first | refine ngo ?_ | refine VB.tt ?_ | refine VB.ff ?_ | refine VNew.keep ?_ | refine dgo ?_ | refine sgo ?_ | fail)
                      conv => whnf
                      refine vall.s1 (i := 15) (by kernel_rfl) (by rfl) ?_
                      repeat' ((conv => whnf); first | refine ngo ?_ | refine VB.tt ?_ | refine VB.ff ?_ | refine VNew.keep ?_ | refine dgo ?_ | refine sgo ?_ | fail)
                      conv => whnf
                      refine ⟨?_, ?_⟩
                      · simp only [getInt_bl, Nat.zero_add, Nat.mul_one, ei, Int.toNat_natCast]
                        rw [splice_bl (by omega), length_bl, List.length_set, List.length_singleton]
                        omega
                      repeat' ((conv => whnf); first | refine ngo ?_ | refine VB.tt ?_ | refine VB.ff ?_ | refine VNew.keep ?_ | refine dgo ?_ | refine sgo ?_ | fail)
                      conv => whnf
                      refine ⟨[], by simp, by simp, ?_, ?_, rfl, by simp⟩
                      · conv => whnf
                        refine ⟨⟨_, rfl, .cells rfl (FzL.same ?_ (low_bl _ _))⟩, trivial⟩
                        simp only [getInt_bl, Nat.zero_add, Nat.mul_one, ei, Int.toNat_natCast]
                        rw [splice_bl (by omega), splice_bl (by rw [List.length_set]; omega), ← rp_succ (by omega) (by omega), Nat.add_sub_cancel]
                      · exact ⟨⟨_, rfl, .same rfl Nat.zero_lt_one⟩, ⟨_, rfl, .same rfl trivial⟩, ⟨_, rfl, .same rfl trivial⟩, trivial⟩
                    · repeat' ((conv => whnf); first | refine ngo ?_ | refine VB.tt ?_ | refine VB.ff ?_ | refine VNew.keep ?_ | refine dgo ?_ | refine sgo ?_ | fail)
                      conv => whnf
                      refine vall.s1 (i := 7) (by kernel_rfl) (by rfl) ?_
                      repeat' ((conv => whnf); first | refine ngo ?_ | refine VB.tt ?_ | refine VB.ff ?_ | refine VNew.keep ?_ | refine dgo ?_ | refine sgo ?_ | fail)
                      conv => whnf
                      refine vall.s1 (i := 12) (by kernel_rfl) (by rfl) ?_
                      repeat' ((conv => whnf); first | refine ngo ?_ | refine VB.tt ?_ | refine VB.ff ?_ | refine VNew.keep ?_ | refine dgo ?_ | refine sgo ?_ | fail)
                      conv => whnf
                      refine vall.s1 (i := 13) (by kernel_rfl) (by rfl) ?_
                      repeat' ((conv => whnf); first | refine ngo ?_ | refine VB.tt ?_ | refine VB.ff ?_ | refine VNew.keep ?_ | refine dgo ?_ | refine sgo ?_ | fail)
                      conv => whnf
                      refine vall.s1 (i := 14) (by kernel_rfl) (by rfl) ?_
                      repeat' ((conv => whnf); first | refine ngo ?_ | refine VB.tt ?_ | refine VB.ff ?_ | refine VNew.keep ?_ | refine dgo ?_ | refine sgo ?_ | fail)
                      conv => whnf
                      refine vall.s1 (i := 15) (by kernel_rfl) (by rfl) ?_
                      repeat' ((conv => whnf); first | refine ngo ?_ | refine VB.tt ?_ | refine VB.ff ?_ | refine VNew.keep ?_ | refine dgo ?_ | refine sgo ?_ | fail)
                      conv => whnf
                      refine ⟨?_, ?_⟩
                      · simp only [getInt_bl, Nat.zero_add, Nat.mul_one, ei, Int.toNat_natCast]
                        rw [splice_bl (by omega), length_bl, List.length_set, List.length_singleton]
                        omega
                      repeat' ((conv => whnf); first | refine ngo ?_ | refine VB.tt ?_ | refine VB.ff ?_ | refine VNew.keep ?_ | refine dgo ?_ | refine sgo ?_ | fail)
                      conv => whnf
                      refine ⟨[], by simp, by simp, ?_, ?_, rfl, by simp⟩
                      · conv => whnf
                        refine ⟨⟨_, rfl, .cells rfl (FzL.same ?_ (low_bl _ _))⟩, trivial⟩
                        simp only [getInt_bl, Nat.zero_add, Nat.mul_one, ei, Int.toNat_natCast]
                        rw [splice_bl (by omega), splice_bl (by rw [List.length_set]; omega), ← rp_succ (by omega) (by omega), Nat.add_sub_cancel]
                      · exact ⟨⟨_, rfl, .same rfl Nat.zero_lt_one⟩, ⟨_, rfl, .same rfl trivial⟩, ⟨_, rfl, .same rfl trivial⟩, trivial⟩
                · repeat' ((conv => whnf); first | refine ngo ?_ | refine VB.tt ?_ | refine VB.ff ?_ | refine VNew.keep ?_ | refine dgo ?_ | refine sgo ?_ | fail)
                  conv => whnf
                  refine vall.s2 (i := 6) (i' := 11) (by kernel_rfl) (by rfl) (by rfl) ?_ ?_
                  · repeat' ((conv => whnf); first | refine ngo ?_ | refine VB.tt ?_ | refine VB.ff ?_ | refine VNew.keep ?_ | refine dgo ?_ | refine sgo ?_ | fail)
                    conv => whnf
                    refine vall.s2 (i := 7) (i' := 11) (by kernel_rfl) (by rfl) (by rfl) ?_ ?_
                    · repeat' ((conv => whnf); first | refine ngo ?_ | refine VB.tt ?_ | refine VB.ff ?_ | refine VNew.keep ?_ | refine dgo ?_ | refine sgo ?_ | fail)
                      conv => whnf
                      refine vall.s1 (i := 11) (by kernel_rfl) (by rfl) ?_
                      repeat' ((conv => whnf); first | refine ngo ?_ | refine VB.tt ?_ | refine VB.ff ?_ | refine VNew.keep ?_ | refine dgo ?_ | refine sgo ?_ | fail)
                      conv => whnf
                      refine vall.s1 (i := 12) (by kernel_rfl) (by rfl) ?_
                      repeat' ((conv => whnf); first | refine ngo ?_ | refine VB.tt ?_ | refine VB.ff ?_ | refine VNew.keep ?_ | refine dgo ?_ | refine sgo ?_ | fail)
                      conv => whnf
                      refine vall.s1 (i := 13) (by kernel_rfl) (by rfl) ?_
                      repeat' ((conv => whnf); first | refine ngo ?_ | refine VB.tt ?_ | refine VB.ff ?_ | refine VNew.keep ?_ | refine dgo ?_ | refine sgo ?_ | fail)
                      conv => whnf
                      refine vall.s1 (i := 14) (by kernel_rfl) (by rfl) ?_
                      repeat' ((conv => whnf); first | refine ngo ?_ | refine VB.tt ?_ | refine VB.ff ?_ | refine VNew.keep ?_ | refine dgo ?_ | refine sgo ?_ | fail)
                      conv => whnf
                      refine vall.s1 (i := 15) (by kernel_rfl) (by rfl) ?_
                      repeat' ((conv => whnf); first | refine ngo ?_ | refine VB.tt ?_ | refine VB.ff ?_ | refine VNew.keep ?_ | refine dgo ?_ | refine sgo ?_ | fail)
                      conv => whnf
                      refine ⟨?_, ?_⟩
                      · simp only [getInt_bl, Nat.zero_add, Nat.mul_one, ei, Int.toNat_natCast]
                        rw [splice_bl (by omega), length_bl, List.length_set, List.length_singleton]
                        omega
                      repeat' ((conv => whnf); first | refine ngo ?_ | refine VB.tt ?_ | refine VB.ff ?_ | refine VNew.keep ?_ | refine dgo ?_ | refine sgo ?_ | fail)
                      conv => whnf
                      refine ⟨[], by simp, by simp, ?_, ?_, rfl, by simp⟩
                      · conv => whnf
                        refine ⟨⟨_, rfl, .cells rfl (FzL.same ?_ (low_bl _ _))⟩, trivial⟩
                        simp only [getInt_bl, Nat.zero_add, Nat.mul_one, ei, Int.toNat_natCast]
                        rw [splice_bl (by omega), splice_bl (by rw [List.length_set]; omega), ← rp_succ (by omega) (by omega), Nat.add_sub_cancel]
                      · exact ⟨⟨_, rfl, .same rfl Nat.zero_lt_one⟩, ⟨_, rfl, .same rfl trivial⟩, ⟨_, rfl, .same rfl trivial⟩, trivial⟩
                    · repeat' ((conv => whnf); first | refine ngo ?_ | refine VB.tt ?_ | refine VB.ff ?_ | refine VNew.keep ?_ | refine dgo ?_ | refine sgo ?_ | fail)
                      conv => whnf
                      refine vall.s1 (i := 7) (by kernel_rfl) (by rfl) ?_
                      repeat' ((conv => whnf); first | refine ngo ?_ | refine VB.tt ?_ | refine VB.ff ?_ | refine VNew.keep ?_ | refine dgo ?_ | refine sgo ?_ | fail)
                      conv => whnf
                      refine vall.s1 (i := 12) (by kernel_rfl) (by rfl) ?_
                      repeat' ((conv => whnf); first | refine ngo ?_ | refine VB.tt ?_ | refine VB.ff ?_ | refine VNew.keep ?_ | refine dgo ?_ | refine sgo ?_ | fail)
                      conv => whnf
                      refine vall.s1 (i := 13) (by kernel_rfl) (by rfl) ?_
                      repeat' ((conv => whnf); first | refine ngo ?_ | refine VB.tt ?_ | refine VB.ff ?_ | refine VNew.keep ?_ | refine dgo ?_ | refine sgo ?_ | fail)
                      conv => whnf
                      refine vall.s1 (i := 14) (by kernel_rfl) (by rfl) ?_
                      repeat' ((conv => whnf); first | refine ngo ?_ | refine VB.tt ?_ | refine VB.ff ?_ | refine VNew.keep ?_ | refine dgo ?_ | refine sgo ?_ | fail)
                      conv => whnf
                      refine vall.s1 (i := 15) (by kernel_rfl) (by rfl) ?_
                      repeat' ((conv => whnf); first | refine ngo ?_ | refine VB.tt ?_ | refine VB.ff ?_ | refine VNew.keep ?_ | refine dgo ?_ | refine sgo ?_ | fail)
                      conv => whnf
                      refine ⟨?_, ?_⟩
                      · simp only [getInt_bl, Nat.zero_add, Nat.mul_one, ei, Int.toNat_natCast]
                        rw [splice_bl (by omega), length_bl, List.length_set, List.length_singleton]
                        omega
                      repeat' ((conv => whnf); first | refine ngo ?_ | refine VB.tt ?_ | refine VB.ff ?_ | refine VNew.keep ?_ | refine dgo ?_ | refine sgo ?_ | fail)
                      conv => whnf
                      refine ⟨[], by simp, by simp, ?_, ?_, rfl, by simp⟩
                      · conv => whnf
                        refine ⟨⟨_, rfl, .cells rfl (FzL.same ?_ (low_bl _ _))⟩, trivial⟩
                        simp only [getInt_bl, Nat.zero_add, Nat.mul_one, ei, Int.toNat_natCast]
                        rw [splice_bl (by omega), splice_bl (by rw [List.length_set]; omega), ← rp_succ (by omega) (by omega), Nat.add_sub_cancel]
                      · exact ⟨⟨_, rfl, .same rfl Nat.zero_lt_one⟩, ⟨_, rfl, .same rfl trivial⟩, ⟨_, rfl, .same rfl trivial⟩, trivial⟩
                  · repeat' ((conv => whnf); first | refine ngo ?_ | refine VB.tt ?_ | refine VB.ff ?_ | refine VNew.keep ?_ | refine dgo ?_ | refine sgo ?_ | fail)
                    conv => whnf
                    refine vall.s1 (i := 6) (by kernel_rfl) (by rfl) ?_
                    repeat' ((conv => whnf); first | refine ngo ?_ | refine VB.tt ?_ | refine VB.ff ?_ | refine VNew.keep ?_ | refine dgo ?_ | refine sgo ?_ | fail)
                    conv => whnf
                    refine vall.s1 (i := 7) (by kernel_rfl) (by rfl) ?_
                    repeat' ((conv => whnf); first | refine ngo ?_ | refine VB.tt ?_ | refine VB.ff ?_ | refine VNew.keep ?_ | refine dgo ?_ | refine sgo ?_ | fail)
                    conv => whnf
                    refine vall.s1 (i := 12) (by kernel_rfl) (by rfl) ?_
                    repeat' ((conv => whnf); first | refine ngo ?_ | refine VB.tt ?_ | refine VB.ff ?_ | refine VNew.keep ?_ | refine dgo ?_ | refine sgo ?_ | fail)
                    conv => whnf
                    refine vall.s1 (i := 13) (by kernel_rfl) (by rfl) ?_
                    repeat' ((conv => whnf); first | refine ngo ?_ | refine VB.tt ?_ | refine VB.ff ?_ | refine VNew.keep ?_ | refine dgo ?_ | refine sgo ?_ | fail)
                    conv => whnf
                    refine vall.s1 (i := 14) (by kernel_rfl) (by rfl) ?_
                    repeat' ((conv => whnf); first | refine ngo ?_ | refine VB.tt ?_ | refine VB.ff ?_ | refine VNew.keep ?_ | refine dgo ?_ | refine sgo ?_ | fail)
                    conv => whnf
                    refine vall.s1 (i := 15) (by kernel_rfl) (by rfl) ?_
                    repeat' ((conv => whnf); first | refine ngo ?_ | refine VB.tt ?_ | refine VB.ff ?_ | refine VNew.keep ?_ | refine dgo ?_ | refine sgo ?_ | fail)
                    conv => whnf
                    refine ⟨?_, ?_⟩
                    · simp only [getInt_bl, Nat.zero_add, Nat.mul_one, ei, Int.toNat_natCast]
                      rw [splice_bl (by omega), length_bl, List.length_set, List.length_singleton]
                      omega
                    repeat' ((conv => whnf); first | refine ngo ?_ | refine VB.tt ?_ | refine VB.ff ?_ | refine VNew.keep ?_ | refine dgo ?_ | refine sgo ?_ | fail)
                    conv => whnf
                    refine ⟨[], by simp, by simp, ?_, ?_, rfl, by simp⟩
                    · conv => whnf
                      refine ⟨⟨_, rfl, .cells rfl (FzL.same ?_ (low_bl _ _))⟩, trivial⟩
                      simp only [getInt_bl, Nat.zero_add, Nat.mul_one, ei, Int.toNat_natCast]
                      rw [splice_bl (by omega), splice_bl (by rw [List.length_set]; omega), ← rp_succ (by omega) (by omega), Nat.add_sub_cancel]
                    · exact ⟨⟨_, rfl, .same rfl Nat.zero_lt_one⟩, ⟨_, rfl, .same rfl trivial⟩, ⟨_, rfl, .same rfl trivial⟩, trivial⟩
              · repeat' ((conv => whnf); first | refine ngo ?_ | refine VB.tt ?_ | refine VB.ff ?_ | refine VNew.keep ?_ | refine dgo ?_ | refine sgo ?_ | fail)
                conv => whnf
                refine ⟨i + 1, by omega, by omega, ⟨⟨rfl, by simp [lk], by simp [lk]; omega, trivial⟩, rfl, rfl⟩⟩
            · have hv1 : val l ≠ 0 := by
                intro h0
                rw [h0, Dec.dg_zero] at ht
                have h5 := congrArg List.length ht
                rw [List.length_take, Nat.min_eq_left hk] at h5
                cases h5
              have e : (rp (asc D) (k + 1) i).take (k + 1) = txtL (val l) := by
                rw [rp_end (by omega) (by omega) hi2, txtL, if_neg hv1, ← ht]
                simp [asc, List.map_take, List.map_reverse]
              repeat' ((conv => whnf); first | refine ngo ?_ | refine VB.tt ?_ | refine VB.ff ?_ | refine VNew.keep ?_ | refine dgo ?_ | refine sgo ?_ | fail)
              conv => whnf
              refine ⟨(txtL (val l)).map fun (n : Nat) => (n : Int), ?_, ?_, ?_⟩
              · rw [Nat.mul_one, List.drop_zero, bl_take, e]
                simp [bl]
              · rw [List.length_map, ← e, List.length_take, rp_length]
                omega
              · repeat' ((conv => whnf); first | refine ngo ?_ | refine VB.tt ?_ | refine VB.ff ?_ | refine VNew.keep ?_ | refine dgo ?_ | refine sgo ?_ | fail)
                conv => whnf
                rfl
        · rw [decide_eq_false h0]
          have : k = 0 := by omega
          subst this
          have hv0 : val l = 0 := by rw [← hv, ← hkv]; rfl
          repeat' ((conv => whnf); first | refine ngo ?_ | refine VB.tt ?_ | refine VB.ff ?_ | refine VNew.keep ?_ | refine dgo ?_ | refine sgo ?_ | fail)
          conv => whnf
          rw [hv0]
          rfl
end Go.Proofs.YtcdnonggajoghaaDoor


/- Contracts: how many digits; the reference's order. -/
namespace Go.Proofs.YtcdnonggajoghaaDoor
open Go Go.RowKit
set_option linter.unusedVariables false
set_option linter.unusedSimpArgs false
set_option maxRecDepth 100000

def digN (n : Nat) : Nat := (txtL n).length
theorem digN_zero : digN 0 = 1 := rfl
theorem digN_pos {n : Nat} (h : n ≠ 0) : digN n = (Dec.dg n).length := by rw [digN, txtL, if_neg h, asc_length, List.length_reverse]
theorem dec_len {n k : Nat} (h1 : 10 ^ k ≤ n) (h2 : n < 10 ^ (k + 1)) : (Dec.dg n).length = k + 1 := by
  have h3 := Dec.length_dg_lt (n := n) (k := k + 1) h2
  have h4 := Dec.lt_of_length_dg n
  rcases Nat.lt_or_ge k (Dec.dg n).length with h5 | h5
  · omega
  · have h6 : (10 : Nat) ^ (Dec.dg n).length ≤ 10 ^ k := Nat.pow_le_pow_right (by decide) h5
    exact absurd (Nat.lt_of_lt_of_le h4 h6) (by omega)
/-- A number, another, or which error. -/
def digR (l : List Nat) : AV := if chk l = 0 then .tup [.int .i64 (digN (val l)), .int .i64 0] else .tup [.int .i64 0, .int .i64 (chk l)]

theorem rdigits_c (l : List Nat) (ll : l.length < 1000000000000000000) : VCall EE 19 [natL l] [] fun v H => v = digR l := by
  refine VCall.of_body true Tryd.func19 rfl (by decide) rfl ?_
  repeat' ((conv => whnf); first | refine ngo ?_ | refine VB.tt ?_ | refine VB.ff ?_ | refine VNew.keep ?_ | refine dgo ?_ | refine sgo ?_ | fail)
  conv => whnf
  have hc := rtext_c l ll
  by_cases h : chk l = 0
  · rw [textR, if_pos h] at hc
    refine VCall.s (hc) ?_
    repeat' ((conv => whnf); first | refine ngo ?_ | refine VB.tt ?_ | refine VB.ff ?_ | refine VNew.keep ?_ | refine dgo ?_ | refine sgo ?_ | fail)
    conv => whnf
    rw [digR, if_pos h, txt, strOfNums_size, List.length_map]
    rfl
  · rw [textR, if_neg h] at hc
    refine VCall.s (hc) ?_
    repeat' ((conv => whnf); first | refine ngo ?_ | refine VB.tt ?_ | refine VB.ff ?_ | refine VNew.keep ?_ | refine dgo ?_ | refine sgo ?_ | fail)
    conv => whnf
    rw [digR, if_neg h]
    rfl

theorem digN_last {l : List Nat} {x n : Nat} (hc : canon l) (hn : l.length = n + 1) (hx : l.getD n 0 = x) : x ≠ 0 ∧ x < 1000000000 ∧ digN (val l) = 9 * n + (Dec.dg x).length := by
  have hlast : l.getLast? = some x := by
    rw [List.getLast?_eq_getElem?, hn, Nat.add_sub_cancel, ← hx, List.getD_eq_getElem?_getD, List.getElem?_eq_getElem (by omega)]
    rfl
  have h0 : x ≠ 0 := hc.2 x hlast
  have h1 : x < 1000000000 := hc.1 x (by rw [← hx]; simp [List.getD_eq_getElem?_getD, show n < l.length by omega])
  refine ⟨h0, h1, ?_⟩
  have hv := val_take_succ (l := l) (i := n) (by omega)
  rw [hx, List.take_of_length_le (by omega)] at hv
  have h2 := val_lt (hc.1.take n)
  rw [List.length_take, Nat.min_eq_left (by omega)] at h2
  obtain ⟨d, hd⟩ : ∃ d, (Dec.dg x).length = d + 1 := ⟨(Dec.dg x).length - 1, by
    have : (Dec.dg x).length ≠ 0 := fun h => h0 (Dec.dg_eq_nil.1 (List.length_eq_zero_iff.1 h))
    omega⟩
  have h3 := Dec.pow_le_of_dg h0
  have h4 := Dec.lt_of_length_dg x
  rw [hd] at h3 h4
  rw [Nat.add_sub_cancel] at h3
  have hp : BB ^ n * 10 ^ d ≤ BB ^ n * x := Nat.mul_le_mul_left _ h3
  have hq : BB ^ n * (x + 1) ≤ BB ^ n * 10 ^ (d + 1) := Nat.mul_le_mul_left _ h4
  rw [Nat.mul_add] at hq
  have hpos : 0 < BB ^ n * 10 ^ d := Nat.mul_pos (Nat.pow_pos (by decide)) (Nat.pow_pos (by decide))
  rw [digN_pos (by omega), hd, ← Nat.add_assoc]
  apply dec_len
  · rw [Nat.pow_add, pow9]; omega
  · rw [Nat.add_assoc, Nat.pow_add, pow9]; omega
end Go.Proofs.YtcdnonggajoghaaDoor


/- Contracts: how many digits. -/
namespace Go.Proofs.YtcdnonggajoghaaDoor
open Go Go.RowKit
set_option linter.unusedVariables false
set_option linter.unusedSimpArgs false
set_option maxRecDepth 100000

theorem digits_c {l : List Nat} (hc : canon l) (ll : l.length ≤ 1024) : VCall EE 41 [natL l] [] fun v H => v = .int .i64 (digN (val l)) := by
  refine VCall.of_body true Tryd.func41 rfl (by decide) rfl ?_
  repeat' ((conv => whnf); first | refine ngo ?_ | refine VB.tt ?_ | refine VB.ff ?_ | refine VNew.keep ?_ | refine dgo ?_ | refine sgo ?_ | fail)
  conv => whnf
  refine VB.eq (fun h => ?_) (fun h => ?_)
  · have : l = [] := List.length_eq_zero_iff.1 (by omega)
    subst this
    repeat' ((conv => whnf); first | refine ngo ?_ | refine VB.tt ?_ | refine VB.ff ?_ | refine VNew.keep ?_ | refine dgo ?_ | refine sgo ?_ | fail)
    conv => whnf
    rfl
  · obtain ⟨n, hn⟩ : ∃ n, l.length = n + 1 := ⟨l.length - 1, by omega⟩
    obtain ⟨x, hx⟩ : ∃ x, l.getD n 0 = x := ⟨_, rfl⟩
    obtain ⟨h0, h1, h2⟩ := digN_last hc hn hx
    have hpw : ∀ i, i < 9 → (10 ^ i ≤ x ↔ i < (Dec.dg x).length) := by
      intro i _
      constructor
      · intro h3
        rcases Nat.lt_or_ge i (Dec.dg x).length with h4 | h4
        · exact h4
        · have h5 : x < 10 ^ i := Nat.lt_of_lt_of_le (Dec.lt_of_length_dg x) (Nat.pow_le_pow_right (by decide) h4)
          omega
      · intro h3
        exact Nat.le_trans (Nat.pow_le_pow_right (by decide) (by omega)) (Dec.pow_le_of_dg h0)
    have hle : (Dec.dg x).length ≤ 9 := Dec.length_dg_lt (k := 9) h1
    repeat' ((conv => whnf); first | refine ngo ?_ | refine VB.tt ?_ | refine VB.ff ?_ | refine VNew.keep ?_ | refine dgo ?_ | refine sgo ?_ | fail)
    conv => whnf
    refine VLoop.ix true (fun i : Nat => ⟨[(0, natL l), (3, .int .i64 (9 * n + min i (Dec.dg x).length : Nat)), (13, .agg [.int .u32 1, .int .u32 10, .int .u32 100, .int .u32 1000, .int .u32 10000, .int .u32 100000, .int .u32 1000000, .int .u32 10000000, .int .u32 100000000]), (14, .int .i64 i)], [], []⟩) (fun i => i ≤ 9) (fun i => 9 - i) 0 (by omega) ⟨⟨rfl, by simp [lk, hn], rfl, rfl, trivial⟩, rfl, rfl⟩ ?_
    rintro i hi
    repeat' ((conv => whnf); first | refine ngo ?_ | refine VB.tt ?_ | refine VB.ff ?_ | refine VNew.keep ?_ | refine dgo ?_ | refine sgo ?_ | fail)
    conv => whnf
    refine VB.dec (fun h3 => ?_) (fun h3 => ?_)
    · have h4 := hpw i (by omega)
      have en : ((l.length : Int) - 1).toNat = n := by omega
      clear hpw
      rcases (by omega : i = 0 ∨ i = 1 ∨ i = 2 ∨ i = 3 ∨ i = 4 ∨ i = 5 ∨ i = 6 ∨ i = 7 ∨ i = 8) with rfl | rfl | rfl | rfl | rfl | rfl | rfl | rfl | rfl
      · generalize hp : (10 : Nat) ^ 0 = p at h4
        have hp : p = 1 := by rw [← hp]
        repeat' ((conv => whnf); first | refine ngo ?_ | refine VB.tt ?_ | refine VB.ff ?_ | refine VNew.keep ?_ | refine dgo ?_ | refine sgo ?_ | fail)
        conv => whnf
        rw [en, Nat.mul_one, getInt_limbs, hx]
        refine VB.dec (fun h5 => ?_) (fun h5 => ?_)
        · repeat' ((conv => whnf); first | refine ngo ?_ | refine VB.tt ?_ | refine VB.ff ?_ | refine VNew.keep ?_ | refine dgo ?_ | refine sgo ?_ | fail)
          conv => whnf
          refine ⟨1, by omega, by omega, ⟨⟨rfl, by simp only [lk]; exact congrArg (fun z => some (AV.int .i64 z)) (by omega), rfl, rfl, trivial⟩, rfl, rfl⟩⟩
        · repeat' ((conv => whnf); first | refine ngo ?_ | refine VB.tt ?_ | refine VB.ff ?_ | refine VNew.keep ?_ | refine dgo ?_ | refine sgo ?_ | fail)
          conv => whnf
          refine ⟨1, by omega, by omega, ⟨⟨rfl, by simp only [lk]; exact congrArg (fun z => some (AV.int .i64 z)) (by omega), rfl, rfl, trivial⟩, rfl, rfl⟩⟩
      · generalize hp : (10 : Nat) ^ 1 = p at h4
        have hp : p = 10 := by rw [← hp]
        repeat' ((conv => whnf); first | refine ngo ?_ | refine VB.tt ?_ | refine VB.ff ?_ | refine VNew.keep ?_ | refine dgo ?_ | refine sgo ?_ | fail)
        conv => whnf
        rw [en, Nat.mul_one, getInt_limbs, hx]
        refine VB.dec (fun h5 => ?_) (fun h5 => ?_)
        · repeat' ((conv => whnf); first | refine ngo ?_ | refine VB.tt ?_ | refine VB.ff ?_ | refine VNew.keep ?_ | refine dgo ?_ | refine sgo ?_ | fail)
          conv => whnf
          refine ⟨2, by omega, by omega, ⟨⟨rfl, by simp only [lk]; exact congrArg (fun z => some (AV.int .i64 z)) (by omega), rfl, rfl, trivial⟩, rfl, rfl⟩⟩
        · repeat' ((conv => whnf); first | refine ngo ?_ | refine VB.tt ?_ | refine VB.ff ?_ | refine VNew.keep ?_ | refine dgo ?_ | refine sgo ?_ | fail)
          conv => whnf
          refine ⟨2, by omega, by omega, ⟨⟨rfl, by simp only [lk]; exact congrArg (fun z => some (AV.int .i64 z)) (by omega), rfl, rfl, trivial⟩, rfl, rfl⟩⟩
      · generalize hp : (10 : Nat) ^ 2 = p at h4
        have hp : p = 100 := by rw [← hp]
        repeat' ((conv => whnf); first | refine ngo ?_ | refine VB.tt ?_ | refine VB.ff ?_ | refine VNew.keep ?_ | refine dgo ?_ | refine sgo ?_ | fail)
        conv => whnf
        rw [en, Nat.mul_one, getInt_limbs, hx]
        refine VB.dec (fun h5 => ?_) (fun h5 => ?_)
        · repeat' ((conv => whnf); first | refine ngo ?_ | refine VB.tt ?_ | refine VB.ff ?_ | refine VNew.keep ?_ | refine dgo ?_ | refine sgo ?_ | fail)
          conv => whnf
          refine ⟨3, by omega, by omega, ⟨⟨rfl, by simp only [lk]; exact congrArg (fun z => some (AV.int .i64 z)) (by omega), rfl, rfl, trivial⟩, rfl, rfl⟩⟩
        · repeat' ((conv => whnf); first | refine ngo ?_ | refine VB.tt ?_ | refine VB.ff ?_ | refine VNew.keep ?_ | refine dgo ?_ | refine sgo ?_ | fail)
          conv => whnf
          refine ⟨3, by omega, by omega, ⟨⟨rfl, by simp only [lk]; exact congrArg (fun z => some (AV.int .i64 z)) (by omega), rfl, rfl, trivial⟩, rfl, rfl⟩⟩
      · generalize hp : (10 : Nat) ^ 3 = p at h4
        have hp : p = 1000 := by rw [← hp]
        repeat' ((conv => whnf); first | refine ngo ?_ | refine VB.tt ?_ | refine VB.ff ?_ | refine VNew.keep ?_ | refine dgo ?_ | refine sgo ?_ | fail)
        conv => whnf
        rw [en, Nat.mul_one, getInt_limbs, hx]
        refine VB.dec (fun h5 => ?_) (fun h5 => ?_)
        · repeat' ((conv => whnf); first | refine ngo ?_ | refine VB.tt ?_ | refine VB.ff ?_ | refine VNew.keep ?_ | refine dgo ?_ | refine sgo ?_ | fail)
          conv => whnf
          refine ⟨4, by omega, by omega, ⟨⟨rfl, by simp only [lk]; exact congrArg (fun z => some (AV.int .i64 z)) (by omega), rfl, rfl, trivial⟩, rfl, rfl⟩⟩
        · repeat' ((conv => whnf); first | refine ngo ?_ | refine VB.tt ?_ | refine VB.ff ?_ | refine VNew.keep ?_ | refine dgo ?_ | refine sgo ?_ | fail)
          conv => whnf
          refine ⟨4, by omega, by omega, ⟨⟨rfl, by simp only [lk]; exact congrArg (fun z => some (AV.int .i64 z)) (by omega), rfl, rfl, trivial⟩, rfl, rfl⟩⟩
      · generalize hp : (10 : Nat) ^ 4 = p at h4
        have hp : p = 10000 := by rw [← hp]
        repeat' ((conv => whnf); first | refine ngo ?_ | refine VB.tt ?_ | refine VB.ff ?_ | refine VNew.keep ?_ | refine dgo ?_ | refine sgo ?_ | fail)
        conv => whnf
        rw [en, Nat.mul_one, getInt_limbs, hx]
        refine VB.dec (fun h5 => ?_) (fun h5 => ?_)
        · repeat' ((conv => whnf); first | refine ngo ?_ | refine VB.tt ?_ | refine VB.ff ?_ | refine VNew.keep ?_ | refine dgo ?_ | refine sgo ?_ | fail)
          conv => whnf
          refine ⟨5, by omega, by omega, ⟨⟨rfl, by simp only [lk]; exact congrArg (fun z => some (AV.int .i64 z)) (by omega), rfl, rfl, trivial⟩, rfl, rfl⟩⟩
        · repeat' ((conv => whnf); first | refine ngo ?_ | refine VB.tt ?_ | refine VB.ff ?_ | refine VNew.keep ?_ | refine dgo ?_ | refine sgo ?_ | fail)
          conv => whnf
          refine ⟨5, by omega, by omega, ⟨⟨rfl, by simp only [lk]; exact congrArg (fun z => some (AV.int .i64 z)) (by omega), rfl, rfl, trivial⟩, rfl, rfl⟩⟩
      · generalize hp : (10 : Nat) ^ 5 = p at h4
        have hp : p = 100000 := by rw [← hp]
        repeat' ((conv => whnf); first | refine ngo ?_ | refine VB.tt ?_ | refine VB.ff ?_ | refine VNew.keep ?_ | refine dgo ?_ | refine sgo ?_ | fail)
        conv => whnf
        rw [en, Nat.mul_one, getInt_limbs, hx]
        refine VB.dec (fun h5 => ?_) (fun h5 => ?_)
        · repeat' ((conv => whnf); first | refine ngo ?_ | refine VB.tt ?_ | refine VB.ff ?_ | refine VNew.keep ?_ | refine dgo ?_ | refine sgo ?_ | fail)
          conv => whnf
          refine ⟨6, by omega, by omega, ⟨⟨rfl, by simp only [lk]; exact congrArg (fun z => some (AV.int .i64 z)) (by omega), rfl, rfl, trivial⟩, rfl, rfl⟩⟩
        · repeat' ((conv => whnf); first | refine ngo ?_ | refine VB.tt ?_ | refine VB.ff ?_ | refine VNew.keep ?_ | refine dgo ?_ | refine sgo ?_ | fail)
          conv => whnf
          refine ⟨6, by omega, by omega, ⟨⟨rfl, by simp only [lk]; exact congrArg (fun z => some (AV.int .i64 z)) (by omega), rfl, rfl, trivial⟩, rfl, rfl⟩⟩
      · generalize hp : (10 : Nat) ^ 6 = p at h4
        have hp : p = 1000000 := by rw [← hp]
        repeat' ((conv => whnf); first | refine ngo ?_ | refine VB.tt ?_ | refine VB.ff ?_ | refine VNew.keep ?_ | refine dgo ?_ | refine sgo ?_ | fail)
        conv => whnf
        rw [en, Nat.mul_one, getInt_limbs, hx]
        refine VB.dec (fun h5 => ?_) (fun h5 => ?_)
        · repeat' ((conv => whnf); first | refine ngo ?_ | refine VB.tt ?_ | refine VB.ff ?_ | refine VNew.keep ?_ | refine dgo ?_ | refine sgo ?_ | fail)
          conv => whnf
          refine ⟨7, by omega, by omega, ⟨⟨rfl, by simp only [lk]; exact congrArg (fun z => some (AV.int .i64 z)) (by omega), rfl, rfl, trivial⟩, rfl, rfl⟩⟩
        · repeat' ((conv => whnf); first | refine ngo ?_ | refine VB.tt ?_ | refine VB.ff ?_ | refine VNew.keep ?_ | refine dgo ?_ | refine sgo ?_ | fail)
          conv => whnf
          refine ⟨7, by omega, by omega, ⟨⟨rfl, by simp only [lk]; exact congrArg (fun z => some (AV.int .i64 z)) (by omega), rfl, rfl, trivial⟩, rfl, rfl⟩⟩
      · generalize hp : (10 : Nat) ^ 7 = p at h4
        have hp : p = 10000000 := by rw [← hp]
        repeat' ((conv => whnf); first | refine ngo ?_ | refine VB.tt ?_ | refine VB.ff ?_ | refine VNew.keep ?_ | refine dgo ?_ | refine sgo ?_ | fail)
        conv => whnf
        rw [en, Nat.mul_one, getInt_limbs, hx]
        refine VB.dec (fun h5 => ?_) (fun h5 => ?_)
        · repeat' ((conv => whnf); first | refine ngo ?_ | refine VB.tt ?_ | refine VB.ff ?_ | refine VNew.keep ?_ | refine dgo ?_ | refine sgo ?_ | fail)
          conv => whnf
          refine ⟨8, by omega, by omega, ⟨⟨rfl, by simp only [lk]; exact congrArg (fun z => some (AV.int .i64 z)) (by omega), rfl, rfl, trivial⟩, rfl, rfl⟩⟩
        · repeat' ((conv => whnf); first | refine ngo ?_ | refine VB.tt ?_ | refine VB.ff ?_ | refine VNew.keep ?_ | refine dgo ?_ | refine sgo ?_ | fail)
          conv => whnf
          refine ⟨8, by omega, by omega, ⟨⟨rfl, by simp only [lk]; exact congrArg (fun z => some (AV.int .i64 z)) (by omega), rfl, rfl, trivial⟩, rfl, rfl⟩⟩
      · generalize hp : (10 : Nat) ^ 8 = p at h4
        have hp : p = 100000000 := by rw [← hp]
        repeat' ((conv => whnf); first | refine ngo ?_ | refine VB.tt ?_ | refine VB.ff ?_ | refine VNew.keep ?_ | refine dgo ?_ | refine sgo ?_ | fail)
        conv => whnf
        rw [en, Nat.mul_one, getInt_limbs, hx]
        refine VB.dec (fun h5 => ?_) (fun h5 => ?_)
        · repeat' ((conv => whnf); first | refine ngo ?_ | refine VB.tt ?_ | refine VB.ff ?_ | refine VNew.keep ?_ | refine dgo ?_ | refine sgo ?_ | fail)
          conv => whnf
          refine ⟨9, by omega, by omega, ⟨⟨rfl, by simp only [lk]; exact congrArg (fun z => some (AV.int .i64 z)) (by omega), rfl, rfl, trivial⟩, rfl, rfl⟩⟩
        · repeat' ((conv => whnf); first | refine ngo ?_ | refine VB.tt ?_ | refine VB.ff ?_ | refine VNew.keep ?_ | refine dgo ?_ | refine sgo ?_ | fail)
          conv => whnf
          refine ⟨9, by omega, by omega, ⟨⟨rfl, by simp only [lk]; exact congrArg (fun z => some (AV.int .i64 z)) (by omega), rfl, rfl, trivial⟩, rfl, rfl⟩⟩
    · repeat' ((conv => whnf); first | refine ngo ?_ | refine VB.tt ?_ | refine VB.ff ?_ | refine VNew.keep ?_ | refine dgo ?_ | refine sgo ?_ | fail)
      conv => whnf
      rw [h2]
      congr 2
      omega
end Go.Proofs.YtcdnonggajoghaaDoor


/- Contracts: the reference's quotients, the estimate. -/
namespace Go.Proofs.YtcdnonggajoghaaDoor
open Go Go.RowKit
set_option linter.unusedVariables false
set_option linter.unusedSimpArgs false
set_option maxRecDepth 100000

structure OvC (f n lq A V top : Nat) : Prop where
  hf1 : 1 ≤ f
  hf2 : f < BB
  hn : 1 ≤ n
  hnn : n = (dg V).length
  hn2 : n < 9000000
  hlq2 : lq < 20000000
  hlq : lq + n = (dg A).length + 1
  htop : top < BB
  htop0 : top ≠ 0
  hV : top * BB ^ (n - 1) ≤ V
  hV0 : 0 < V
  hVpow : V < BB ^ n

def oFr (f n lq A V top : Nat) (i : Int) (r : AV) : Fr := [(0, natv A), (1, natv V), (4, .osl 0 0 0 lq 1), (5, r), (6, .dsl (limbs [f]) 1), (7, .int .u64 top), (8, .int .i64 n), (9, .int .i64 i)]

end Go.Proofs.YtcdnonggajoghaaDoor


/- Contracts: the reference's quotients, the digits. -/
namespace Go.Proofs.YtcdnonggajoghaaDoor
open Go Go.RowKit
set_option linter.unusedVariables false
set_option linter.unusedSimpArgs false
set_option maxRecDepth 100000

theorem over_est {V top P W : Nat} (hV : top * P ≤ V) (ht : 0 < top) (hP : 0 < P) : W / V ≤ W / P / top := by
  have hV0 : 0 < V := Nat.lt_of_lt_of_le (Nat.mul_pos ht hP) hV
  rw [Nat.le_div_iff_mul_le ht, Nat.le_div_iff_mul_le hP]
  have h1 := Nat.div_mul_le_self W V
  generalize W / V = q at *
  have h2 := Nat.mul_le_mul_left q hV
  rw [← Nat.mul_assoc] at h2
  omega

theorem over_step {A V Q R j aj W : Nat} (h : A / BB ^ (j + 1) = V * Q + R) (ha : aj = A / BB ^ j % BB) (hW : W = aj + BB * R) : A / BB ^ j = V * (W / V + BB * Q) + W % V := by
  have e1 : A / BB ^ j = BB * (A / BB ^ (j + 1)) + aj := by
    rw [ha, Nat.pow_succ, ← Nat.div_div_eq_div_mul]
    exact (Nat.div_add_mod _ _).symm
  have h2 := Nat.div_add_mod W V
  rw [e1, h, Nat.mul_add, Nat.mul_add]
  rw [hW] at h2 ⊢
  generalize (aj + BB * R) / V = w at *
  generalize (aj + BB * R) % V = r at *
  rw [Nat.mul_left_comm]
  omega

/-- The rest in the second block, or none. -/
def accR1 (l : List Nat) (k : Nat) : AV := match l with
  | [] => .nsl
  | x :: l => .osl 1 l.length 0 k 1
def oSt (f n lq A V top : Nat) (j : Nat) (q rl : List Nat) : St := match j with
  | 0 => ⟨oFr f n lq A V top (-1) (accR1 rl (dg (val rl)).length), .cells 0 30 (limbs q) :: accH 30 rl, []⟩
  | j + 1 => ⟨oFr f n lq A V top (j : Nat) (natL rl), [.cells 0 30 (limbs q)], []⟩

end Go.Proofs.YtcdnonggajoghaaDoor


/- Contracts: the reference's quotients, whole. -/
namespace Go.Proofs.YtcdnonggajoghaaDoor
open Go Go.RowKit
set_option linter.unusedVariables false
set_option linter.unusedSimpArgs false
set_option maxRecDepth 100000

theorem dg_one {f : Nat} (h1 : 1 ≤ f) (h2 : f < BB) : natv f = .dsl (limbs [f]) 1 := by
  rw [natv, dg_pos (by omega), Nat.mod_eq_of_lt h2, Nat.div_eq_of_lt h2, dg_zero]
  rfl

end Go.Proofs.YtcdnonggajoghaaDoor


/- Contracts: the document's calls for quotients, divisors and multiples. -/
namespace Go.Proofs.YtcdnonggajoghaaDoor
open Go Go.RowKit
set_option linter.unusedVariables false
set_option linter.unusedSimpArgs false
set_option maxRecDepth 100000

theorem dg_len_zero {n : Nat} (h : (dg n).length = 0) : n = 0 := dg_eq_nil.1 (List.length_eq_zero_iff.1 h)

/-- What a quotient and a remainder are, or which error. -/
def divR (a b : List Nat) : AV := if both2 a b = 0 then (if val b = 0 then .tup [natv 0, natv 0, .int .i64 6] else .tup [natv (val a / val b), natv (val a % val b), .int .i64 0]) else .tup [natv 0, natv 0, .int .i64 (both2 a b)]

theorem val_zero_nil {b : List Nat} (hb : canon b) : val b = 0 ↔ b = [] := by
  constructor
  · intro h; rw [← dg_val hb, h, dg_zero]
  · rintro rfl; rfl

theorem ndiv_c (a b : List Nat) (la : a.length < 1000000000000000000) (lb : b.length < 1000000000000000000) : VCall EE 32 [natL a, natL b] [] fun v H => Fz H 0 [] v (divR a b) := by
  refine VCall.of_body true Tryd.func32 rfl (by decide) rfl ?_
  repeat' ((conv => whnf); first | refine ngo ?_ | refine VB.tt ?_ | refine VB.ff ?_ | refine dgo ?_ | refine sgo ?_ | fail)
  conv => whnf
  refine VNew.dat (cs' := [natL a, natL b]) rfl rfl ?_
  repeat' ((conv => whnf); first | refine ngo ?_ | refine VB.tt ?_ | refine VB.ff ?_ | refine VNew.keep ?_ | refine dgo ?_ | refine sgo ?_ | fail)
  conv => whnf
  refine VCall.s (checked_c a b la lb) ?_
  repeat' ((conv => whnf); first | refine ngo ?_ | refine VB.tt ?_ | refine VB.ff ?_ | refine VNew.keep ?_ | refine dgo ?_ | refine sgo ?_ | fail)
  conv => whnf
  refine VB.ne (fun h => ?_) (fun h => ?_)
  · repeat' ((conv => whnf); first | refine ngo ?_ | refine VB.tt ?_ | refine VB.ff ?_ | refine VNew.keep ?_ | refine dgo ?_ | refine sgo ?_ | fail)
    conv => whnf
    rw [divR, if_neg h]
    repeat' (first | exact fz_nil0 | exact Fz.nsl | exact Fz.same rfl (by repeat' (first | exact trivial | exact low_natL 0 _ | exact low_limbs 0 _ | refine And.intro ?_ ?_ | fail)) | refine Fz.tup ?_ | refine FzL.cons ?_ ?_ | exact FzL.nil | fail)
  · obtain ⟨h1, h2⟩ := both2_zero h
    obtain ⟨ca, la⟩ := chk_zero h1
    obtain ⟨cb, lb⟩ := chk_zero h2
    repeat' ((conv => whnf); first | refine ngo ?_ | refine VB.tt ?_ | refine VB.ff ?_ | refine VNew.keep ?_ | refine dgo ?_ | refine sgo ?_ | fail)
    conv => whnf
    refine VB.eq (fun h3 => ?_) (fun h3 => ?_)
    · have h4 : b = [] := List.length_eq_zero_iff.1 (by omega)
      repeat' ((conv => whnf); first | refine ngo ?_ | refine VB.tt ?_ | refine VB.ff ?_ | refine VNew.keep ?_ | refine dgo ?_ | refine sgo ?_ | fail)
      conv => whnf
      rw [divR, if_pos h, if_pos ((val_zero_nil cb).2 h4)]
      repeat' (first | exact fz_nil0 | exact Fz.nsl | exact Fz.same rfl (by repeat' (first | exact trivial | exact low_natL 0 _ | exact low_limbs 0 _ | refine And.intro ?_ ?_ | fail)) | refine Fz.tup ?_ | refine FzL.cons ?_ ?_ | exact FzL.nil | fail)
    · have h4 : b ≠ [] := fun e => h3 (by rw [e]; rfl)
      repeat' ((conv => whnf); first | refine ngo ?_ | refine VB.tt ?_ | refine VB.ff ?_ | refine VNew.keep ?_ | refine dgo ?_ | refine sgo ?_ | fail)
      conv => whnf
      refine VCall.i (divide_c ca cb h4 (by omega) (by omega)) ?_
      repeat' ((conv => whnf); first | refine ngo ?_ | refine VB.tt ?_ | refine VB.ff ?_ | refine VNew.keep ?_ | refine dgo ?_ | refine sgo ?_ | fail)
      conv => whnf
      rw [divR, if_pos h, if_neg (fun e => h4 ((val_zero_nil cb).1 e))]
      repeat' (first | exact fz_nil0 | exact Fz.nsl | exact Fz.same rfl (by repeat' (first | exact trivial | exact low_natL 0 _ | exact low_limbs 0 _ | refine And.intro ?_ ?_ | fail)) | refine Fz.tup ?_ | refine FzL.cons ?_ ?_ | exact FzL.nil | fail)

theorem canon_natL {a : List Nat} (h : canon a) : natL a = natv (val a) := natv_of h

theorem ngcd1_c {a b : List Nat} (ca : canon a) (cb : canon b) (la : a.length ≤ 1024) (lb : b.length ≤ 1024) : VCall EE 48 [natL a, natL b] [] fun v H => Fz H 0 [] v (.tup [natv (Nat.gcd (val a) (val b)), .int .i64 0]) := by
  refine VCall.of_body true Tryd.func48 rfl (by decide) rfl ?_
  have hc := common_n (a := val a) (b := val b) (by rw [dg_val ca]; omega) (by rw [dg_val cb]; omega)
  rw [← canon_natL ca, ← canon_natL cb] at hc
  repeat' ((conv => whnf); first | refine ngo ?_ | refine VB.tt ?_ | refine VB.ff ?_ | refine VNew.keep ?_ | refine dgo ?_ | refine sgo ?_ | fail)
  conv => whnf
  refine VCall.i (hc) ?_
  repeat' ((conv => whnf); first | refine ngo ?_ | refine VB.tt ?_ | refine VB.ff ?_ | refine VNew.keep ?_ | refine dgo ?_ | refine sgo ?_ | fail)
  conv => whnf
  repeat' (first | exact fz_nil0 | exact Fz.nsl | exact Fz.same rfl (by repeat' (first | exact trivial | exact low_natL 0 _ | exact low_limbs 0 _ | refine And.intro ?_ ?_ | fail)) | refine Fz.tup ?_ | refine FzL.cons ?_ ?_ | exact FzL.nil | fail)

theorem ngcd_c (a b : List Nat) (la : a.length < 1000000000000000000) (lb : b.length < 1000000000000000000) : VCall EE 23 [natL a, natL b] [] fun v H => Fz H 0 [] v (res2 a b (Nat.gcd (val a) (val b)) 0) := by
  refine VCall.of_body true Tryd.func23 rfl (by decide) rfl ?_
  repeat' ((conv => whnf); first | refine ngo ?_ | refine VB.tt ?_ | refine VB.ff ?_ | refine VNew.keep ?_ | refine dgo ?_ | refine sgo ?_ | fail)
  conv => whnf
  refine VCall.i (with_c la lb (fun h => ngcd1_c (chk_zero (both2_zero h).1).1 (chk_zero (both2_zero h).2).1 (chk_zero (both2_zero h).1).2 (chk_zero (both2_zero h).2).2)) ?_
  repeat' ((conv => whnf); first | refine ngo ?_ | refine VB.tt ?_ | refine VB.ff ?_ | refine VNew.keep ?_ | refine dgo ?_ | refine sgo ?_ | fail)
  conv => whnf
  repeat' (first | exact fz_nil0 | exact Fz.nsl | exact Fz.same rfl (by repeat' (first | exact trivial | exact low_natL 0 _ | exact low_limbs 0 _ | refine And.intro ?_ ?_ | fail)) | refine Fz.tup ?_ | refine FzL.cons ?_ ?_ | exact FzL.nil | fail)

theorem gcd_len {a b : List Nat} (ca : canon a) (cb : canon b) (la : a.length ≤ 1024) (lb : b.length ≤ 1024) : (dg (Nat.gcd (val a) (val b))).length ≤ 1024 := by
  rcases Nat.eq_zero_or_pos (val a) with h | h
  · rw [h, Nat.gcd_zero_left, dg_val cb]; exact lb
  · have := dg_length_mono (Nat.gcd_le_left (val b) h)
    rw [dg_val ca] at this
    omega

/-- The least common multiple: the number, and which error. -/
def lcmN (a b : Nat) : Nat := if 1024 < (dg (Nat.lcm a b)).length then 0 else Nat.lcm a b
def lcmE (a b : Nat) : Int := if 1024 < (dg (Nat.lcm a b)).length then 5 else 0
theorem lcm_alt {a b : Nat} : Nat.lcm a b = a / Nat.gcd a b * b := by
  rw [Nat.lcm, Nat.div_mul_right_comm (Nat.gcd_dvd_left a b)]

theorem lcm_len {a b : List Nat} (ca : canon a) (cb : canon b) (la : a.length ≤ 1024) (lb : b.length ≤ 1024) : (dg (Nat.lcm (val a) (val b))).length ≤ 2048 := by
  have h1 := dg_length_mono (Nat.mul_le_mul_right (val b) (Nat.div_le_self (val a) (Nat.gcd (val a) (val b))))
  have h2 := dg_mul_le (val a) (val b)
  rw [dg_val ca, dg_val cb] at h2
  rw [lcm_alt]
  omega

theorem nlcm1_c {a b : List Nat} (ca : canon a) (cb : canon b) (la : a.length ≤ 1024) (lb : b.length ≤ 1024) : VCall EE 50 [natL a, natL b] [] fun v H => Fz H 0 [] v (.tup [natv (lcmN (val a) (val b)), .int .i64 (lcmE (val a) (val b))]) := by
  refine VCall.of_body true Tryd.func50 rfl (by decide) rfl ?_
  repeat' ((conv => whnf); first | refine ngo ?_ | refine VB.tt ?_ | refine VB.ff ?_ | refine VNew.keep ?_ | refine dgo ?_ | refine sgo ?_ | fail)
  conv => whnf
  by_cases h1 : a = []
  · subst h1
    repeat' ((conv => whnf); first | refine ngo ?_ | refine VB.tt ?_ | refine VB.ff ?_ | refine VNew.keep ?_ | refine dgo ?_ | refine sgo ?_ | fail)
    conv => whnf
    rw [lcmN, lcmE, show val ([] : List Nat) = 0 from rfl, Nat.lcm_zero_left, dg_zero, if_neg (by decide), if_neg (by decide)]
    repeat' (first | exact fz_nil0 | exact Fz.nsl | exact Fz.same rfl (by repeat' (first | exact trivial | exact low_natL 0 _ | exact low_limbs 0 _ | refine And.intro ?_ ?_ | fail)) | refine Fz.tup ?_ | refine FzL.cons ?_ ?_ | exact FzL.nil | fail)
  · have h1' : a.length ≠ 0 := fun e => h1 (List.length_eq_zero_iff.1 e)
    have ha0 : val a ≠ 0 := fun e => h1 ((val_zero_nil ca).1 e)
    rw [show ((a.length : Int) == 0) = false by simpa using h1']
    repeat' ((conv => whnf); first | refine ngo ?_ | refine VB.tt ?_ | refine VB.ff ?_ | refine VNew.keep ?_ | refine dgo ?_ | refine sgo ?_ | fail)
    conv => whnf
    refine VB.eq (fun h2 => ?_) (fun h2 => ?_)
    · have h2 : b = [] := List.length_eq_zero_iff.1 (by omega)
      subst h2
      repeat' ((conv => whnf); first | refine ngo ?_ | refine VB.tt ?_ | refine VB.ff ?_ | refine VNew.keep ?_ | refine dgo ?_ | refine sgo ?_ | fail)
      conv => whnf
      rw [lcmN, lcmE, show val ([] : List Nat) = 0 from rfl, Nat.lcm_zero_right, dg_zero, if_neg (by decide), if_neg (by decide)]
      repeat' (first | exact fz_nil0 | exact Fz.nsl | exact Fz.same rfl (by repeat' (first | exact trivial | exact low_natL 0 _ | exact low_limbs 0 _ | refine And.intro ?_ ?_ | fail)) | refine Fz.tup ?_ | refine FzL.cons ?_ ?_ | exact FzL.nil | fail)
    · have hc := common_n (a := val a) (b := val b) (by rw [dg_val ca]; omega) (by rw [dg_val cb]; omega)
      rw [← canon_natL ca, ← canon_natL cb] at hc
      have hl := gcd_len ca cb la lb
      have hll := lcm_len ca cb la lb
      have hf := fits_c (n := Nat.lcm (val a) (val b)) (by omega)
      have hql : (dg (val a / Nat.gcd (val a) (val b))).length ≤ 1024 := by
        have := dg_length_mono (Nat.div_le_self (val a) (Nat.gcd (val a) (val b)))
        rw [dg_val ca] at this
        omega
      rw [lcm_alt] at hf
      have hpr := product_n (a := val a / Nat.gcd (val a) (val b)) (b := val b) (by omega) (by rw [dg_val cb]; omega)
      rw [← canon_natL cb] at hpr
      have hdv := divide_n (a := val a) (b := Nat.gcd (val a) (val b)) (fun e => ha0 (Nat.gcd_eq_zero_iff.1 e).1) (by rw [dg_val ca]; omega) (by omega)
      rw [← canon_natL ca] at hdv
      repeat' ((conv => whnf); first | refine ngo ?_ | refine VB.tt ?_ | refine VB.ff ?_ | refine VNew.keep ?_ | refine dgo ?_ | refine sgo ?_ | fail)
      conv => whnf
      refine VCall.i (hc) ?_
      repeat' ((conv => whnf); first | refine ngo ?_ | refine VB.tt ?_ | refine VB.ff ?_ | refine VNew.keep ?_ | refine dgo ?_ | refine sgo ?_ | fail)
      conv => whnf
      refine VCall.i (hdv) ?_
      repeat' ((conv => whnf); first | refine ngo ?_ | refine VB.tt ?_ | refine VB.ff ?_ | refine VNew.keep ?_ | refine dgo ?_ | refine sgo ?_ | fail)
      conv => whnf
      refine VCall.i (hpr) ?_
      repeat' ((conv => whnf); first | refine ngo ?_ | refine VB.tt ?_ | refine VB.ff ?_ | refine VNew.keep ?_ | refine dgo ?_ | refine sgo ?_ | fail)
      conv => whnf
      refine VCall.i (hf) ?_
      repeat' ((conv => whnf); first | refine ngo ?_ | refine VB.tt ?_ | refine VB.ff ?_ | refine VNew.keep ?_ | refine dgo ?_ | refine sgo ?_ | fail)
      conv => whnf
      rw [lcmN, lcmE, lcm_alt]
      repeat' (first | exact fz_nil0 | exact Fz.nsl | exact Fz.same rfl (by repeat' (first | exact trivial | exact low_natL 0 _ | exact low_limbs 0 _ | refine And.intro ?_ ?_ | fail)) | refine Fz.tup ?_ | refine FzL.cons ?_ ?_ | exact FzL.nil | fail)

theorem nlcm_c (a b : List Nat) (la : a.length < 1000000000000000000) (lb : b.length < 1000000000000000000) : VCall EE 24 [natL a, natL b] [] fun v H => Fz H 0 [] v (res2 a b (lcmN (val a) (val b)) (lcmE (val a) (val b))) := by
  refine VCall.of_body true Tryd.func24 rfl (by decide) rfl ?_
  repeat' ((conv => whnf); first | refine ngo ?_ | refine VB.tt ?_ | refine VB.ff ?_ | refine VNew.keep ?_ | refine dgo ?_ | refine sgo ?_ | fail)
  conv => whnf
  refine VCall.i (with_c la lb (fun h => nlcm1_c (chk_zero (both2_zero h).1).1 (chk_zero (both2_zero h).2).1 (chk_zero (both2_zero h).1).2 (chk_zero (both2_zero h).2).2)) ?_
  repeat' ((conv => whnf); first | refine ngo ?_ | refine VB.tt ?_ | refine VB.ff ?_ | refine VNew.keep ?_ | refine dgo ?_ | refine sgo ?_ | fail)
  conv => whnf
  repeat' (first | exact fz_nil0 | exact Fz.nsl | exact Fz.same rfl (by repeat' (first | exact trivial | exact low_natL 0 _ | exact low_limbs 0 _ | refine And.intro ?_ ?_ | fail)) | refine Fz.tup ?_ | refine FzL.cons ?_ ?_ | exact FzL.nil | fail)

end Go.Proofs.YtcdnonggajoghaaDoor


/- Contracts: the law's own helpers. -/
namespace Go.Proofs.YtcdnonggajoghaaDoor
open Go Go.RowKit
set_option linter.unusedVariables false
set_option linter.unusedSimpArgs false
set_option maxRecDepth 100000

theorem long_c (a : List Nat) (most : Nat) : VCall EE 7 [natL a, .int .i64 most] [] fun v H => v = .bool (decide ((most < a.length ∧ a.length ≤ 1024) ∨ 1100 < a.length)) := by
  refine VCall.of_body true Tryd.func7 rfl (by decide) rfl ?_
  repeat' ((conv => whnf); first | refine ngo ?_ | refine VB.tt ?_ | refine VB.ff ?_ | refine VNew.keep ?_ | refine dgo ?_ | refine sgo ?_ | fail)
  conv => whnf
  by_cases h1 : (a.length : Int) > (most : Int)
  · rw [decide_eq_true h1]
    repeat' ((conv => whnf); first | refine ngo ?_ | refine VB.tt ?_ | refine VB.ff ?_ | refine VNew.keep ?_ | refine dgo ?_ | refine sgo ?_ | fail)
    conv => whnf
    by_cases h2 : (a.length : Int) ≤ 1024
    · rw [decide_eq_true h2]
      repeat' ((conv => whnf); first | refine ngo ?_ | refine VB.tt ?_ | refine VB.ff ?_ | refine VNew.keep ?_ | refine dgo ?_ | refine sgo ?_ | fail)
      conv => whnf
      rw [decide_eq_true (by omega)]
    · rw [decide_eq_false h2]
      repeat' ((conv => whnf); first | refine ngo ?_ | refine VB.tt ?_ | refine VB.ff ?_ | refine VNew.keep ?_ | refine dgo ?_ | refine sgo ?_ | fail)
      conv => whnf
      by_cases h3 : (a.length : Int) > 1100
      · rw [decide_eq_true h3, decide_eq_true (by omega)]
      · rw [decide_eq_false h3, decide_eq_false (by omega)]
  · rw [decide_eq_false h1]
    repeat' ((conv => whnf); first | refine ngo ?_ | refine VB.tt ?_ | refine VB.ff ?_ | refine VNew.keep ?_ | refine dgo ?_ | refine sgo ?_ | fail)
    conv => whnf
    by_cases h3 : (a.length : Int) > 1100
    · rw [decide_eq_true h3, decide_eq_true (by omega)]
    · rw [decide_eq_false h3, decide_eq_false (by omega)]

theorem nof_c (n : Int) (h1 : -9223372036854775808 ≤ n) (h2 : n < 9223372036854775808) : VCall EE 9 [.int .i64 n] [] fun v H => Fz H 0 [] v (.tup [natv n.toNat, .int .i64 (if n < 0 then 2 else 0)]) := by
  refine VCall.of_body true Tryd.func9 rfl (by decide) rfl ?_
  repeat' ((conv => whnf); first | refine ngo ?_ | refine VB.tt ?_ | refine VB.ff ?_ | refine VNew.keep ?_ | refine dgo ?_ | refine sgo ?_ | fail)
  conv => whnf
  refine VB.dec (fun h => ?_) (fun h => ?_)
  · repeat' ((conv => whnf); first | refine ngo ?_ | refine VB.tt ?_ | refine VB.ff ?_ | refine VNew.keep ?_ | refine dgo ?_ | refine sgo ?_ | fail)
    conv => whnf
    rw [if_pos h, show n.toNat = 0 by omega]
    repeat' (first | exact fz_nil0 | exact Fz.nsl | exact Fz.same rfl (by repeat' (first | exact trivial | exact low_natL 0 _ | exact low_limbs 0 _ | refine And.intro ?_ ?_ | fail)) | refine Fz.tup ?_ | refine FzL.cons ?_ ?_ | exact FzL.nil | fail)
  · obtain ⟨k, rfl⟩ : ∃ k : Nat, n = (k : Int) := ⟨n.toNat, by omega⟩
    repeat' ((conv => whnf); first | refine ngo ?_ | refine VB.tt ?_ | refine VB.ff ?_ | refine VNew.keep ?_ | refine dgo ?_ | refine sgo ?_ | fail)
    conv => whnf
    refine VCall.i (of_c k (by omega)) ?_
    repeat' ((conv => whnf); first | refine ngo ?_ | refine VB.tt ?_ | refine VB.ff ?_ | refine VNew.keep ?_ | refine dgo ?_ | refine sgo ?_ | fail)
    conv => whnf
    rw [if_neg h, Int.toNat_natCast]
    repeat' (first | exact fz_nil0 | exact Fz.nsl | exact Fz.same rfl (by repeat' (first | exact trivial | exact low_natL 0 _ | exact low_limbs 0 _ | refine And.intro ?_ ?_ | fail)) | refine Fz.tup ?_ | refine FzL.cons ?_ ?_ | exact FzL.nil | fail)

def mulN (a b : Nat) : Nat := if 1024 < (dg (a * b)).length then 0 else a * b
def mulE (a b : Nat) : Int := if 1024 < (dg (a * b)).length then 5 else 0
theorem mul_len {a b : List Nat} (ca : canon a) (cb : canon b) (la : a.length ≤ 1024) (lb : b.length ≤ 1024) : (dg (val a * val b)).length ≤ 2048 := by
  have h2 := dg_mul_le (val a) (val b)
  rw [dg_val ca, dg_val cb] at h2
  omega

theorem nmul1_c {a b : List Nat} (ca : canon a) (cb : canon b) (la : a.length ≤ 1024) (lb : b.length ≤ 1024) : VCall EE 57 [natL a, natL b] [] fun v H => Fz H 0 [] v (.tup [natv (mulN (val a) (val b)), .int .i64 (mulE (val a) (val b))]) := by
  refine VCall.of_body true Tryd.func57 rfl (by decide) rfl ?_
  have hp := product_n (a := val a) (b := val b) (by rw [dg_val ca]; omega) (by rw [dg_val cb]; omega)
  rw [← canon_natL ca, ← canon_natL cb] at hp
  have hl := mul_len ca cb la lb
  repeat' ((conv => whnf); first | refine ngo ?_ | refine VB.tt ?_ | refine VB.ff ?_ | refine VNew.keep ?_ | refine dgo ?_ | refine sgo ?_ | fail)
  conv => whnf
  refine VCall.i (hp) ?_
  repeat' ((conv => whnf); first | refine ngo ?_ | refine VB.tt ?_ | refine VB.ff ?_ | refine VNew.keep ?_ | refine dgo ?_ | refine sgo ?_ | fail)
  conv => whnf
  refine VCall.i (fits_c (by omega)) ?_
  repeat' ((conv => whnf); first | refine ngo ?_ | refine VB.tt ?_ | refine VB.ff ?_ | refine VNew.keep ?_ | refine dgo ?_ | refine sgo ?_ | fail)
  conv => whnf
  rw [mulN, mulE]
  repeat' (first | exact fz_nil0 | exact Fz.nsl | exact Fz.same rfl (by repeat' (first | exact trivial | exact low_natL 0 _ | exact low_limbs 0 _ | refine And.intro ?_ ?_ | fail)) | refine Fz.tup ?_ | refine FzL.cons ?_ ?_ | exact FzL.nil | fail)

theorem nmul_c (a b : List Nat) (la : a.length < 1000000000000000000) (lb : b.length < 1000000000000000000) : VCall EE 31 [natL a, natL b] [] fun v H => Fz H 0 [] v (res2 a b (mulN (val a) (val b)) (mulE (val a) (val b))) := by
  refine VCall.of_body true Tryd.func31 rfl (by decide) rfl ?_
  repeat' ((conv => whnf); first | refine ngo ?_ | refine VB.tt ?_ | refine VB.ff ?_ | refine VNew.keep ?_ | refine dgo ?_ | refine sgo ?_ | fail)
  conv => whnf
  refine VCall.i (with_c la lb (fun h => nmul1_c (chk_zero (both2_zero h).1).1 (chk_zero (both2_zero h).2).1 (chk_zero (both2_zero h).1).2 (chk_zero (both2_zero h).2).2)) ?_
  repeat' ((conv => whnf); first | refine ngo ?_ | refine VB.tt ?_ | refine VB.ff ?_ | refine VNew.keep ?_ | refine dgo ?_ | refine sgo ?_ | fail)
  conv => whnf
  repeat' (first | exact fz_nil0 | exact Fz.nsl | exact Fz.same rfl (by repeat' (first | exact trivial | exact low_natL 0 _ | exact low_limbs 0 _ | refine And.intro ?_ ?_ | fail)) | refine Fz.tup ?_ | refine FzL.cons ?_ ?_ | exact FzL.nil | fail)

theorem is_c {a w : List Nat} {e : Int} (la : a.length < 1000000000) (lw : w.length < 1000000000) : VCall EE 22 [natL a, .int .i64 e, natL w] [] fun v H => v = .bool (e == 0 && decide (a = w)) := by
  refine VCall.of_body true Tryd.func22 rfl (by decide) rfl ?_
  repeat' ((conv => whnf); first | refine ngo ?_ | refine VB.tt ?_ | refine VB.ff ?_ | refine VNew.keep ?_ | refine dgo ?_ | refine sgo ?_ | fail)
  conv => whnf
  cases h : (e == 0) with
  | true =>
    repeat' ((conv => whnf); first | refine ngo ?_ | refine VB.tt ?_ | refine VB.ff ?_ | refine VNew.keep ?_ | refine dgo ?_ | refine sgo ?_ | fail)
    conv => whnf
    refine VCall.s (alike_c la lw) ?_
    repeat' ((conv => whnf); first | refine ngo ?_ | refine VB.tt ?_ | refine VB.ff ?_ | refine VNew.keep ?_ | refine dgo ?_ | refine sgo ?_ | fail)
    conv => whnf
    rw [Bool.true_and]
  | false =>
    repeat' ((conv => whnf); first | refine ngo ?_ | refine VB.tt ?_ | refine VB.ff ?_ | refine VNew.keep ?_ | refine dgo ?_ | refine sgo ?_ | fail)
    conv => whnf
    rfl

theorem is_same {w : List Nat} (lw : w.length < 1000) : VCall EE 22 [natL w, .int .i64 0, natL w] [] fun v H => v = .bool true := by
  have h := is_c (a := w) (w := w) (e := 0) (by omega) (by omega)
  rwa [decide_eq_true rfl] at h

theorem alike_same (a : List Nat) (la : a.length < 1000000000) : VCall EE 11 [natL a, natL a] [] fun v H => v = .bool true := by
  have h := alike_c la la
  rwa [decide_eq_true rfl] at h

theorem natv_lit {w : List Nat} {n : Nat} (hw : canonB w = true) (hn : val w = n) : natv n = natL w := by
  rw [natv, ← hn, dg_val (canonB_iff.1 hw)]

theorem dg_len_of {n : Nat} {w : List Nat} (hw : canonB w = true) (hn : val w = n) : (dg n).length = w.length := by rw [← hn, dg_val (canonB_iff.1 hw)]

theorem awake_c : VCall EE 8 [] [] fun v H => v = .bool true := by
  refine VCall.of_body true Tryd.func8 rfl (by decide) rfl ?_
  repeat' ((conv => whnf); first | refine ngo ?_ | refine VB.tt ?_ | refine VB.ff ?_ | refine VNew.keep ?_ | refine dgo ?_ | refine sgo ?_ | fail)
  conv => whnf
  have h1 := nof_c 12345678901 (by decide) (by decide)
  rw [if_neg (by decide), show (12345678901 : Int).toNat = 12345678901 from rfl, natv_lit (w := [345678901, 12]) (by decide) (by decide)] at h1
  refine VCall.i (h1) ?_
  repeat' ((conv => whnf); first | refine ngo ?_ | refine VB.tt ?_ | refine VB.ff ?_ | refine dgo ?_ | refine sgo ?_ | fail)
  conv => whnf
  refine VNew.dat (cs' := limbs [999999999]) rfl rfl ?_
  repeat' ((conv => whnf); first | refine ngo ?_ | refine VB.tt ?_ | refine VB.ff ?_ | refine dgo ?_ | refine sgo ?_ | fail)
  conv => whnf
  refine VNew.dat (cs' := limbs [999999999]) rfl rfl ?_
  repeat' ((conv => whnf); first | refine ngo ?_ | refine VB.tt ?_ | refine VB.ff ?_ | refine VNew.keep ?_ | refine dgo ?_ | refine sgo ?_ | fail)
  conv => whnf
  have h2 := nmul_c [999999999] [999999999] (by decide) (by decide)
  rw [res2, show both2 [999999999] [999999999] = 0 by decide, if_pos rfl, if_pos rfl, mulN, mulE, show val [999999999] * val [999999999] = 999999998000000001 by decide, dg_len_of (w := [1, 999999998]) (by decide) (by decide), if_neg (by decide), if_neg (by decide), natv_lit (w := [1, 999999998]) (by decide) (by decide)] at h2
  show VCall EE _ [natL [999999999], natL [999999999]] [.gone, .gone] _
  refine VCall.i (h2) ?_
  repeat' ((conv => whnf); first | refine ngo ?_ | refine VB.tt ?_ | refine VB.ff ?_ | refine dgo ?_ | refine sgo ?_ | fail)
  conv => whnf
  refine VNew.dat (cs' := limbs [0, 0, 1]) rfl rfl ?_
  repeat' ((conv => whnf); first | refine ngo ?_ | refine VB.tt ?_ | refine VB.ff ?_ | refine dgo ?_ | refine sgo ?_ | fail)
  conv => whnf
  refine VNew.dat (cs' := limbs [7]) rfl rfl ?_
  repeat' ((conv => whnf); first | refine ngo ?_ | refine VB.tt ?_ | refine VB.ff ?_ | refine VNew.keep ?_ | refine dgo ?_ | refine sgo ?_ | fail)
  conv => whnf
  have h3 := ndiv_c [0, 0, 1] [7] (by decide) (by decide)
  rw [divR, show both2 [0, 0, 1] [7] = 0 by decide, if_pos rfl, if_neg (by decide), show val [0, 0, 1] / val [7] = 142857142857142857 by decide, show val [0, 0, 1] % val [7] = 1 by decide, natv_lit (n := 142857142857142857) (w := [857142857, 142857142]) (by decide) (by decide), natv_lit (n := 1) (w := [1]) (by decide) (by decide)] at h3
  show VCall EE _ [natL [0, 0, 1], natL [7]] [.gone, .gone, .gone, .gone] _
  refine VCall.i (h3) ?_
  repeat' ((conv => whnf); first | refine ngo ?_ | refine VB.tt ?_ | refine VB.ff ?_ | refine dgo ?_ | refine sgo ?_ | fail)
  conv => whnf
  refine VNew.dat (cs' := limbs [345678901, 12]) rfl rfl ?_
  repeat' ((conv => whnf); first | refine ngo ?_ | refine VB.tt ?_ | refine VB.ff ?_ | refine VNew.keep ?_ | refine dgo ?_ | refine sgo ?_ | fail)
  conv => whnf
  show VCall EE _ [natL [345678901, 12], .int .i64 0, natL [345678901, 12]] [.gone, .gone, .gone, .gone, .gone] _
  refine VCall.s (is_same (by decide)) ?_
  repeat' ((conv => whnf); first | refine ngo ?_ | refine VB.tt ?_ | refine VB.ff ?_ | refine dgo ?_ | refine sgo ?_ | fail)
  conv => whnf
  refine VNew.dat (cs' := limbs [1, 999999998]) rfl rfl ?_
  repeat' ((conv => whnf); first | refine ngo ?_ | refine VB.tt ?_ | refine VB.ff ?_ | refine VNew.keep ?_ | refine dgo ?_ | refine sgo ?_ | fail)
  conv => whnf
  show VCall EE _ [natL [1, 999999998], .int .i64 0, natL [1, 999999998]] [.gone, .gone, .gone, .gone, .gone, .gone] _
  refine VCall.s (is_same (by decide)) ?_
  repeat' ((conv => whnf); first | refine ngo ?_ | refine VB.tt ?_ | refine VB.ff ?_ | refine dgo ?_ | refine sgo ?_ | fail)
  conv => whnf
  refine VNew.dat (cs' := limbs [857142857, 142857142]) rfl rfl ?_
  repeat' ((conv => whnf); first | refine ngo ?_ | refine VB.tt ?_ | refine VB.ff ?_ | refine VNew.keep ?_ | refine dgo ?_ | refine sgo ?_ | fail)
  conv => whnf
  show VCall EE _ [natL [857142857, 142857142], .int .i64 0, natL [857142857, 142857142]] [.gone, .gone, .gone, .gone, .gone, .gone, .gone] _
  refine VCall.s (is_same (by decide)) ?_
  repeat' ((conv => whnf); first | refine ngo ?_ | refine VB.tt ?_ | refine VB.ff ?_ | refine dgo ?_ | refine sgo ?_ | fail)
  conv => whnf
  refine VNew.dat (cs' := limbs [1]) rfl rfl ?_
  repeat' ((conv => whnf); first | refine ngo ?_ | refine VB.tt ?_ | refine VB.ff ?_ | refine VNew.keep ?_ | refine dgo ?_ | refine sgo ?_ | fail)
  conv => whnf
  show VCall EE _ [natL [1], .int .i64 0, natL [1]] [.gone, .gone, .gone, .gone, .gone, .gone, .gone, .gone] _
  refine VCall.s (is_same (by decide)) ?_
  repeat' ((conv => whnf); first | refine ngo ?_ | refine VB.tt ?_ | refine VB.ff ?_ | refine VNew.keep ?_ | refine dgo ?_ | refine sgo ?_ | fail)
  conv => whnf

theorem divR_ex (a b : List Nat) (la : a.length < 10000) : ∃ q r : Nat, ∃ e : Int, divR a b = .tup [natv q, natv r, .int .i64 e] ∧ (dg q).length < 100000 ∧ (dg r).length < 100000 := by
  unfold divR
  split
  · rename_i h
    obtain ⟨h1, h2⟩ := both2_zero h
    obtain ⟨ca, la⟩ := chk_zero h1
    split
    · exact ⟨_, _, _, rfl, by rw [dg_zero]; decide, by rw [dg_zero]; decide⟩
    · refine ⟨_, _, _, rfl, ?_, ?_⟩
      · have := dg_length_mono (Nat.div_le_self (val a) (val b))
        rw [dg_val ca] at this
        omega
      · have := dg_length_mono (Nat.mod_le (val a) (val b))
        rw [dg_val ca] at this
        omega
  · exact ⟨_, _, _, rfl, by rw [dg_zero]; decide, by rw [dg_zero]; decide⟩

theorem lcmN_len (a b : Nat) : (dg (lcmN a b)).length ≤ 1024 := by
  unfold lcmN
  split
  · rw [dg_zero]; decide
  · omega
theorem res2_ex (a b : List Nat) (n : Nat) (hn : both2 a b = 0 → (dg n).length ≤ 1024) : ∃ g : Nat, (∀ e, res2 a b n e = .tup [natv g, .int .i64 (if both2 a b = 0 then e else both2 a b)]) ∧ (dg g).length ≤ 1024 := by
  refine ⟨_, fun e => rfl, ?_⟩
  split
  · exact hn (by assumption)
  · rw [dg_zero]; decide

end Go.Proofs.YtcdnonggajoghaaDoor


/- Contracts: sums and differences. -/
namespace Go.Proofs.YtcdnonggajoghaaDoor
open Go Go.RowKit
set_option linter.unusedVariables false
set_option linter.unusedSimpArgs false
set_option maxRecDepth 100000

theorem both_c {a b : List Nat} : VCall EE 59 [natL a, natL b] [] fun v H => Fz H 0 [] v (.fn (.func 69) [] [.dptr [natL a], .dptr [natL b]]) := by
  refine VCall.of_body true Tryd.func59 rfl (by decide) rfl ?_
  repeat' ((conv => whnf); first | refine ngo ?_ | refine VB.tt ?_ | refine VB.ff ?_ | refine VNew.keep ?_ | refine dgo ?_ | refine sgo ?_ | fail)
  conv => whnf
  exact .fn .nil (.cons (.ptr (Nat.zero_le _) (by simp) rfl (.cons (.same rfl (low_natL 0 a)) .nil)) (.cons (.ptr (Nat.zero_le _) (by simp) rfl (.cons (.same rfl (low_natL 0 b)) .nil)) .nil))

theorem both1_c {a b : List Nat} {H0 : Heap} {yb : Nat} (hyb : yb < H0.length) (la : a.length < 1000000000) (lb : b.length < 1000000000) (I : Nat → Heap → Prop) (h0 : I 0 H0)
    (hr : ∀ i H, i < max a.length b.length → I i H → VRound EE yb [.int .u64 ((a.getD i 0 : Nat) : Int), .int .u64 ((b.getD i 0 : Nat) : Int)] H fun v H' => v = .bool true ∧ ∃ H'', I (i + 1) H'' ∧ FzHp H' H0.length [] (List.range H0.length ++ []) H'')
    (ha : okL a) (hb : okL b) :
    VCall EE 69 [.yld yb, .dptr [natL a], .dptr [natL b]] H0 fun v H' => I (max a.length b.length) H' := by
  refine VCall.of_body true Tryd.func69 rfl (by decide) rfl ?_
  have hmx : (if (b.length : Int) > (a.length : Int) then (b.length : Int) else (a.length : Int)) = ((max a.length b.length : Nat) : Int) := by
    split <;> omega
  repeat' ((conv => whnf); first | refine ngo ?_ | refine VB.tt ?_ | refine VB.ff ?_ | refine VNew.keep ?_ | refine dgo ?_ | refine sgo ?_ | fail)
  conv => whnf
  refine VLoop.tr true (fun x : Nat × Heap => ⟨[(0, .yld yb), (1, .dptr [natL a]), (2, .dptr [natL b]), (11, .int .i64 ((max a.length b.length : Nat) : Int)), (12, .int .i64 x.1)], x.2, []⟩) (fun x => x.1 ≤ max a.length b.length ∧ I x.1 x.2) (fun x => max a.length b.length - x.1) (0, H0)
    ⟨Nat.zero_le _, h0⟩ ⟨⟨rfl, rfl, rfl, by simp only [lk]; rw [← hmx]; rfl, rfl, trivial⟩, rfl, rfl⟩ ?_
  rintro ⟨i, H⟩ ⟨hi, hI⟩
  dsimp only at hi hI ⊢
  repeat' ((conv => whnf); first | refine ngo ?_ | refine VB.tt ?_ | refine VB.ff ?_ | refine VNew.keep ?_ | refine dgo ?_ | refine sgo ?_ | fail)
  conv => whnf
  refine VB.dec (fun h => ?_) (fun h => ?_)
  · have hil : i < max a.length b.length := by omega
    have hx := getD_lt ha i
    have hy := getD_lt hb i
    have hBB : BB = 1000000000 := rfl
    have ga : getInt (List.drop ((i : Int).toNat * 1) (limbs a)) = ((a.getD i 0 : Nat) : Int) := by rw [Int.toNat_natCast, Nat.mul_one, getInt_limbs]
    have gb : getInt (List.drop ((i : Int).toNat * 1) (limbs b)) = ((b.getD i 0 : Nat) : Int) := by rw [Int.toNat_natCast, Nat.mul_one, getInt_limbs]
    have za : a.length ≤ i → (0 : Int) = ((a.getD i 0 : Nat) : Int) := fun h => by simp [List.getD_eq_getElem?_getD, h]
    have zb : b.length ≤ i → (0 : Int) = ((b.getD i 0 : Nat) : Int) := fun h => by simp [List.getD_eq_getElem?_getD, h]
    have hrr := hr i H hil hI
    generalize a.getD i 0 = x at *
    generalize b.getD i 0 = y at *
    repeat' ((conv => whnf); first | refine ngo ?_ | refine VB.tt ?_ | refine VB.ff ?_ | refine VNew.keep ?_ | refine dgo ?_ | refine sgo ?_ | fail)
    conv => whnf
    refine VB.dec (fun h1 => ?_) (fun h1 => ?_)
    · repeat' ((conv => whnf); first | refine ngo ?_ | refine VB.tt ?_ | refine VB.ff ?_ | refine VNew.keep ?_ | refine dgo ?_ | refine sgo ?_ | fail)
      conv => whnf
      rw [ga]
      repeat' ((conv => whnf); first | refine ngo ?_ | refine VB.tt ?_ | refine VB.ff ?_ | refine VNew.keep ?_ | refine dgo ?_ | refine sgo ?_ | fail)
      conv => whnf
      refine VB.dec (fun h2 => ?_) (fun h2 => ?_)
      · repeat' ((conv => whnf); first | refine ngo ?_ | refine VB.tt ?_ | refine VB.ff ?_ | refine VNew.keep ?_ | refine dgo ?_ | refine sgo ?_ | fail)
        conv => whnf
        rw [gb]
        repeat' ((conv => whnf); first | refine ngo ?_ | refine VB.tt ?_ | refine VB.ff ?_ | refine VNew.keep ?_ | refine dgo ?_ | refine sgo ?_ | fail)
        conv => whnf
        refine hrr.mono fun v H' hq => ?_
        obtain ⟨rfl, H'', hI2, hz⟩ := hq
        repeat' ((conv => whnf); first | refine ngo ?_ | refine VB.tt ?_ | refine VB.ff ?_ | refine VNew.keep ?_ | refine dgo ?_ | refine sgo ?_ | fail)
        conv => whnf
        exact ⟨(i + 1, H''), ⟨hil, hI2⟩, by dsimp only; omega, [], by simp, by simp, hz, FzFr.sub ⟨hyb, ⟨low_natL _ a, trivial⟩, ⟨low_natL _ b, trivial⟩, trivial, trivial, trivial⟩ ⟨rfl, rfl, rfl, rfl, by simp [lk], trivial⟩, rfl, by simp⟩
      · repeat' ((conv => whnf); first | refine ngo ?_ | refine VB.tt ?_ | refine VB.ff ?_ | refine VNew.keep ?_ | refine dgo ?_ | refine sgo ?_ | fail)
        conv => whnf
        rw [← zb (by omega)] at hrr
        refine hrr.mono fun v H' hq => ?_
        obtain ⟨rfl, H'', hI2, hz⟩ := hq
        repeat' ((conv => whnf); first | refine ngo ?_ | refine VB.tt ?_ | refine VB.ff ?_ | refine VNew.keep ?_ | refine dgo ?_ | refine sgo ?_ | fail)
        conv => whnf
        exact ⟨(i + 1, H''), ⟨hil, hI2⟩, by dsimp only; omega, [], by simp, by simp, hz, FzFr.sub ⟨hyb, ⟨low_natL _ a, trivial⟩, ⟨low_natL _ b, trivial⟩, trivial, trivial, trivial⟩ ⟨rfl, rfl, rfl, rfl, by simp [lk], trivial⟩, rfl, by simp⟩
    · repeat' ((conv => whnf); first | refine ngo ?_ | refine VB.tt ?_ | refine VB.ff ?_ | refine VNew.keep ?_ | refine dgo ?_ | refine sgo ?_ | fail)
      conv => whnf
      refine VB.dec (fun h2 => ?_) (fun h2 => ?_)
      · repeat' ((conv => whnf); first | refine ngo ?_ | refine VB.tt ?_ | refine VB.ff ?_ | refine VNew.keep ?_ | refine dgo ?_ | refine sgo ?_ | fail)
        conv => whnf
        rw [gb]
        repeat' ((conv => whnf); first | refine ngo ?_ | refine VB.tt ?_ | refine VB.ff ?_ | refine VNew.keep ?_ | refine dgo ?_ | refine sgo ?_ | fail)
        conv => whnf
        rw [← za (by omega)] at hrr
        refine hrr.mono fun v H' hq => ?_
        obtain ⟨rfl, H'', hI2, hz⟩ := hq
        repeat' ((conv => whnf); first | refine ngo ?_ | refine VB.tt ?_ | refine VB.ff ?_ | refine VNew.keep ?_ | refine dgo ?_ | refine sgo ?_ | fail)
        conv => whnf
        exact ⟨(i + 1, H''), ⟨hil, hI2⟩, by dsimp only; omega, [], by simp, by simp, hz, FzFr.sub ⟨hyb, ⟨low_natL _ a, trivial⟩, ⟨low_natL _ b, trivial⟩, trivial, trivial, trivial⟩ ⟨rfl, rfl, rfl, rfl, by simp [lk], trivial⟩, rfl, by simp⟩
      · exact absurd hil (by omega)
  · have : i = max a.length b.length := by omega
    subst this
    repeat' ((conv => whnf); first | refine ngo ?_ | refine VB.tt ?_ | refine VB.ff ?_ | refine VNew.keep ?_ | refine dgo ?_ | refine sgo ?_ | fail)
    conv => whnf
    exact to_forceH hI

def boxFr (a b : List Nat) (f : FuncId) (t : Tmp) : Fr := [(5, .ptr 1 0 0), (6, .ptr 2 0 0), (t, .fn (.func f) [] [.dptr [natL a], .dptr [natL b]])]
def sumH (l : List Nat) (ver c : Nat) (L : AObj) : Heap := [.cells ver 30 (limbs l), .cells 0 23 [.osl 0 ver 0 l.length 1], .cells 0 50 [.int .u64 c], .dfr, L]
theorem sum_own {a b : List Nat} (ha : okL a) (hb : okL b) (la : a.length < 10000000) (lb : b.length < 10000000) :
    VCall EE 45 [natL a, natL b] [] fun v H => Fz H 0 [] v (natv (val a + val b)) := by
  refine VCall.of_body true Tryd.func45 rfl (by decide) rfl ?_
  have hmx : (if (b.length : Int) > (a.length : Int) then (b.length : Int) else (a.length : Int)) = ((max a.length b.length : Nat) : Int) := by
    split <;> omega
  repeat' ((conv => whnf); first | refine ngo ?_ | refine VB.tt ?_ | refine VB.ff ?_ | refine VNew.keep ?_ | refine dgo ?_ | refine sgo ?_ | fail)
  conv => whnf
  rw [hmx]
  repeat' ((conv => whnf); first | refine ngo ?_ | refine VB.tt ?_ | refine VB.ff ?_ | refine VNew.keep ?_ | refine dgo ?_ | refine sgo ?_ | fail)
  conv => whnf
  refine VCall.i (both_c) ?_
  repeat' ((conv => whnf); first | refine VB.tt ?_ | refine VB.ff ?_ | refine VNew.keep ?_ | refine dgo ?_ | refine sgo ?_ | fail)
  conv => whnf
  refine VNext.at_ true ⟨boxFr a b 69 19, [.cells 0 30 [], .cells 0 23 [.osl 0 0 0 0 1], .cells 0 50 [.int .u64 (0 : Nat)]], []⟩ ⟨by (repeat' first | exact trivial | exact And.intro (by first | rfl | (simp [lk]; done)) trivial | refine And.intro (by first | rfl | (simp [lk]; done)) ?_), rfl, rfl⟩ ?_
  repeat' ((conv => whnf); first | refine ngo ?_ | refine VB.tt ?_ | refine VB.ff ?_ | refine VNew.keep ?_ | refine dgo ?_ | refine sgo ?_ | fail)
  conv => whnf
  refine VRange.out true (f := 69) (first := []) (cap := [.dptr [natL a], .dptr [natL b]]) rfl ?_
  obtain ⟨L, hL⟩ : ∃ L, L = rangeObj Tryd.f45 0 (boxFr a b 69 19) 3 := ⟨_, rfl⟩
  refine VCall.mono ?_ (both1_c (H0 := sumH [] 0 0 (rangeObj Tryd.f45 0 (boxFr a b 69 19) 3)) (yb := 4) (show 4 < 5 by decide) (by omega) (by omega) (fun i H => ∃ (l : List Nat) (c : Nat), l.length = i ∧ okL l ∧ c ≤ 1 ∧ val l + BB ^ i * c = val (a.take i) + val (b.take i) ∧ H = sumH l l.length c (rangeObj Tryd.f45 0 (boxFr a b 69 19) 3))
    ⟨[], 0, rfl, by intro x hx; simp at hx, Nat.zero_le _, by simp [val], rfl⟩ ?_ ha hb)
  · rintro v H ⟨l, c, hll, hok, hc, hv, rfl⟩
    rw [List.take_of_length_le (by omega), List.take_of_length_le (by omega), ← hll] at hv
    have hBB : BB = 1000000000 := rfl
    have gc : getInt (List.drop 0 [AV.int .u64 (c : Int)]) = (c : Int) := rfl
    have hnv : val (l ++ [c]) = val a + val b := by
      rw [val_append, ← hv]
      simp [val]
    have hnok : okL (l ++ [c]) := okL_append.2 ⟨hok, by intro z hz; rw [List.mem_singleton.1 hz]; omega⟩
    repeat' ((conv => whnf); first | refine ngo ?_ | refine VB.tt ?_ | refine VB.ff ?_ | refine VNew.keep ?_ | refine dgo ?_ | refine sgo ?_ | fail)
    conv => whnf
    rw [gc]
    repeat' ((conv => whnf); first | refine ngo ?_ | refine VB.tt ?_ | refine VB.ff ?_ | refine VNew.keep ?_ | refine dgo ?_ | refine sgo ?_ | fail)
    conv => whnf
    have e1 : List.take (l.length * 1) (limbs l) ++ [AV.int .u32 (c : Int)] = limbs (l ++ [c]) := by
      rw [Nat.mul_one, List.take_of_length_le (by simp [limbs]), limbs_append]; rfl
    have ht := trim_own0 (R := [.cells 0 23 [.osl 0 l.length 0 l.length 1], .cells 0 50 [.int .u64 c], .dfr, .gone, .cells 0 30 [.int .u32 (c : Int)]]) (ver := l.length + 1) (e := 30) hnok (by simp; omega)
    rw [← e1] at ht
    simp only [List.length_append, List.length_singleton] at ht
    refine ht.mono fun v H' hq => ?_
    obtain ⟨rfl, rfl⟩ := hq
    rw [hnv]
    repeat' ((conv => whnf); first | refine ngo ?_ | refine VB.tt ?_ | refine VB.ff ?_ | refine VNew.keep ?_ | refine dgo ?_ | refine sgo ?_ | fail)
    conv => whnf
    exact .nat (Nat.zero_le _) (by simp) rfl (by rw [Nat.mul_one, e1, limbs_take, ← hnv, take_dg hnok]) rfl
  · rintro i H hi ⟨l, c, hll, hok, hc, hv, rfl⟩
    refine VRound.of_body true (fr := boxFr a b 69 19) rfl rfl rfl ?_
    have hx := getD_lt ha i
    have hy := getD_lt hb i
    have hta := val_take_any a i
    have htb := val_take_any b i
    have hBB : BB = 1000000000 := rfl
    generalize a.getD i 0 = x at *
    generalize b.getD i 0 = y at *
    have gc : getInt (List.drop 0 [AV.int .u64 (c : Int)]) = (c : Int) := rfl
    obtain ⟨n, hn⟩ : ∃ n, n = x + y + c := ⟨_, rfl⟩
    have g0 : (x : Int) + (y : Int) + (c : Int) = (n : Int) := by omega
    have hmd := Nat.mod_add_div n BB
    have hmm := Nat.mod_lt n (show 0 < BB by decide)
    have hmq : n / BB ≤ 1 := Nat.le_of_lt_succ (Nat.div_lt_of_lt_mul (by omega))
    have g5 := tdiv_BB n
    have g6 := tmod_BB n
    generalize n / BB = q at *
    generalize n % BB = r at *
    have hnv : val (l ++ [r]) + BB ^ (i + 1) * q = val (a.take (i + 1)) + val (b.take (i + 1)) := by
      rw [val_append, hta, htb, hll, Nat.pow_succ, Nat.mul_assoc]
      simp only [val, Nat.mul_zero, Nat.add_zero]
      have e1 : BB ^ i * r + BB ^ i * (BB * q) = BB ^ i * x + BB ^ i * y + BB ^ i * c := by
        rw [← Nat.mul_add, hmd, hn, Nat.mul_add, Nat.mul_add]
      omega
    have hnok : okL (l ++ [r]) := okL_append.2 ⟨hok, by intro z hz; rw [List.mem_singleton.1 hz]; exact hmm⟩
    repeat' ((conv => whnf); first | refine ngo ?_ | refine VB.tt ?_ | refine VB.ff ?_ | refine VNew.keep ?_ | refine dgo ?_ | refine sgo ?_ | fail)
    conv => whnf
    rw [gc]
    repeat' ((conv => whnf); first | refine ngo ?_ | refine VB.tt ?_ | refine VB.ff ?_ | refine VNew.keep ?_ | refine dgo ?_ | refine sgo ?_ | fail)
    conv => whnf
    rw [g0]
    repeat' ((conv => whnf); first | refine ngo ?_ | refine VB.tt ?_ | refine VB.ff ?_ | refine VNew.keep ?_ | refine dgo ?_ | refine sgo ?_ | fail)
    conv => whnf
    rw [g6]
    repeat' ((conv => whnf); first | refine ngo ?_ | refine VB.tt ?_ | refine VB.ff ?_ | refine VNew.keep ?_ | refine dgo ?_ | refine sgo ?_ | fail)
    conv => whnf
    have e1 : List.take (l.length * 1) (limbs l) ++ [AV.int .u32 (r : Int)] = limbs (l ++ [r]) := by
      rw [Nat.mul_one, List.take_of_length_le (by simp [limbs]), limbs_append]; rfl
    have hl2 : (l ++ [r]).length = l.length + 1 := by simp
    refine ⟨sumH (l ++ [r]) (l ++ [r]).length q (rangeObj Tryd.f45 0 (boxFr a b 69 19) 3), ⟨l ++ [r], q, by omega, hnok, hmq, hnv, rfl⟩, ?_⟩
    rw [hl2]
    exact ⟨⟨_, rfl, .cells rfl (FzL.same e1 (low_limbs _ _))⟩, ⟨_, rfl, .cells rfl (.cons (.same (by rw [hl2]) (show 0 < 5 by decide)) .nil)⟩, ⟨_, rfl, .cells rfl (.cons (.same (by rw [g5]) trivial) .nil)⟩, ⟨_, rfl, .dfr⟩,
      ⟨_, rfl, .loop (FzFr.sub ⟨show 1 < 5 by decide, show 2 < 5 by decide, ⟨trivial, ⟨⟨low_natL _ a, trivial⟩, ⟨low_natL _ b, trivial⟩, trivial⟩⟩, trivial⟩ ⟨rfl, rfl, rfl, trivial⟩) (show 3 < 5 by decide)⟩, trivial⟩

theorem less_own {a b : List Nat} (ha : okL a) (hb : okL b) (la : a.length < 10000000) (lb : b.length ≤ a.length) (hle : val b ≤ val a) :
    VCall EE 47 [natL a, natL b] [] fun v H => Fz H 0 [] v (natv (val a - val b)) := by
  refine VCall.of_body true Tryd.func47 rfl (by decide) rfl ?_
  repeat' ((conv => whnf); first | refine ngo ?_ | refine VB.tt ?_ | refine VB.ff ?_ | refine VNew.keep ?_ | refine dgo ?_ | refine sgo ?_ | fail)
  conv => whnf
  refine VCall.i (both_c) ?_
  repeat' ((conv => whnf); first | refine VB.tt ?_ | refine VB.ff ?_ | refine VNew.keep ?_ | refine dgo ?_ | refine sgo ?_ | fail)
  conv => whnf
  refine VNext.at_ true ⟨boxFr a b 69 15, [.cells 0 30 [], .cells 0 23 [.osl 0 0 0 0 1], .cells 0 50 [.int .u64 (0 : Nat)]], []⟩ ⟨by (repeat' first | exact trivial | exact And.intro (by first | rfl | (simp [lk]; done)) trivial | refine And.intro (by first | rfl | (simp [lk]; done)) ?_), rfl, rfl⟩ ?_
  repeat' ((conv => whnf); first | refine ngo ?_ | refine VB.tt ?_ | refine VB.ff ?_ | refine VNew.keep ?_ | refine dgo ?_ | refine sgo ?_ | fail)
  conv => whnf
  refine VRange.out true (f := 69) (first := []) (cap := [.dptr [natL a], .dptr [natL b]]) rfl ?_
  refine VCall.mono ?_ (both1_c (H0 := sumH [] 0 0 (rangeObj Tryd.f47 0 (boxFr a b 69 15) 3)) (yb := 4) (show 4 < 5 by decide) (by omega) (by omega) (fun i H => ∃ (l : List Nat) (c : Nat), l.length = i ∧ okL l ∧ c ≤ 1 ∧ val l + val (b.take i) = val (a.take i) + BB ^ i * c ∧ H = sumH l l.length c (rangeObj Tryd.f47 0 (boxFr a b 69 15) 3))
    ⟨[], 0, rfl, by intro x hx; simp at hx, Nat.zero_le _, by simp [val], rfl⟩ ?_ ha hb)
  · rintro v H ⟨l, c, hll, hok, hc, hv, rfl⟩
    rw [List.take_of_length_le (by omega), List.take_of_length_le (by omega), ← hll] at hv
    have hvl := val_lt hok
    have hc0 : c = 0 := by
      rcases Nat.eq_zero_or_pos c with h0 | h0
      · exact h0
      · have h1 : c = 1 := by omega
        subst h1
        omega
    subst hc0
    have hnv : val l = val a - val b := by omega
    repeat' ((conv => whnf); first | refine ngo ?_ | refine VB.tt ?_ | refine VB.ff ?_ | refine VNew.keep ?_ | refine dgo ?_ | refine sgo ?_ | fail)
    conv => whnf
    refine (trim_own0 (R := [.cells 0 23 [.osl 0 l.length 0 l.length 1], .cells 0 50 [.int .u64 (0 : Nat)], .dfr, .gone]) (ver := l.length) (e := 30) hok (by omega)).mono fun v H' hq => ?_
    obtain ⟨rfl, rfl⟩ := hq
    rw [hnv]
    repeat' ((conv => whnf); first | refine ngo ?_ | refine VB.tt ?_ | refine VB.ff ?_ | refine VNew.keep ?_ | refine dgo ?_ | refine sgo ?_ | fail)
    conv => whnf
    exact .nat (Nat.zero_le _) (by simp) rfl (by rw [Nat.mul_one, limbs_take, ← hnv, take_dg hok]) rfl
  · rintro i H hi ⟨l, c, hll, hok, hc, hv, rfl⟩
    refine VRound.of_body true (fr := boxFr a b 69 15) rfl rfl rfl ?_
    have hx := getD_lt ha i
    have hy := getD_lt hb i
    have hta := val_take_any a i
    have htb := val_take_any b i
    have hBB : BB = 1000000000 := rfl
    generalize a.getD i 0 = x at *
    generalize b.getD i 0 = y at *
    have gc : getInt (List.drop 0 [AV.int .u64 (c : Int)]) = (c : Int) := rfl
    obtain ⟨n, hn⟩ : ∃ n, n = x + BB - y - c := ⟨_, rfl⟩
    have g0 : (x : Int) + 1000000000 - (y : Int) - (c : Int) = (n : Int) := by omega
    have hmd := Nat.mod_add_div n BB
    have hmm := Nat.mod_lt n (show 0 < BB by decide)
    have hmq : n / BB ≤ 1 := Nat.le_of_lt_succ (Nat.div_lt_of_lt_mul (by omega))
    have g5 := tdiv_BB n
    have g6 := tmod_BB n
    generalize n / BB = q at *
    generalize n % BB = r at *
    have hnv : val (l ++ [r]) + val (b.take (i + 1)) = val (a.take (i + 1)) + BB ^ (i + 1) * (1 - q) := by
      rw [val_append, hta, htb, hll, Nat.pow_succ, Nat.mul_assoc]
      simp only [val, Nat.mul_zero, Nat.add_zero]
      have e1 : BB ^ i * r + BB ^ i * y + BB ^ i * c = BB ^ i * x + BB ^ i * (BB * (1 - q)) := by
        rw [← Nat.mul_add, ← Nat.mul_add, ← Nat.mul_add]
        congr 1
        have h1 : BB * (1 - q) = BB - BB * q := by rw [Nat.mul_sub, Nat.mul_one]
        have h9 : BB * q ≤ BB := by have := Nat.mul_le_mul_left BB hmq; omega
        omega
      omega
    have hnok : okL (l ++ [r]) := okL_append.2 ⟨hok, by intro z hz; rw [List.mem_singleton.1 hz]; exact hmm⟩
    repeat' ((conv => whnf); first | refine ngo ?_ | refine VB.tt ?_ | refine VB.ff ?_ | refine VNew.keep ?_ | refine dgo ?_ | refine sgo ?_ | fail)
    conv => whnf
    rw [gc]
    repeat' ((conv => whnf); first | refine ngo ?_ | refine VB.tt ?_ | refine VB.ff ?_ | refine VNew.keep ?_ | refine dgo ?_ | refine sgo ?_ | fail)
    conv => whnf
    rw [g0]
    repeat' ((conv => whnf); first | refine ngo ?_ | refine VB.tt ?_ | refine VB.ff ?_ | refine VNew.keep ?_ | refine dgo ?_ | refine sgo ?_ | fail)
    conv => whnf
    rw [g5]
    repeat' ((conv => whnf); first | refine ngo ?_ | refine VB.tt ?_ | refine VB.ff ?_ | refine VNew.keep ?_ | refine dgo ?_ | refine sgo ?_ | fail)
    conv => whnf
    rw [g6]
    repeat' ((conv => whnf); first | refine ngo ?_ | refine VB.tt ?_ | refine VB.ff ?_ | refine VNew.keep ?_ | refine dgo ?_ | refine sgo ?_ | fail)
    conv => whnf
    have e1 : List.take (l.length * 1) (limbs l) ++ [AV.int .u32 (r : Int)] = limbs (l ++ [r]) := by
      rw [Nat.mul_one, List.take_of_length_le (by simp [limbs]), limbs_append]; rfl
    have hl2 : (l ++ [r]).length = l.length + 1 := by simp
    refine ⟨sumH (l ++ [r]) (l ++ [r]).length (1 - q) (rangeObj Tryd.f47 0 (boxFr a b 69 15) 3), ⟨l ++ [r], 1 - q, by omega, hnok, by omega, hnv, rfl⟩, ?_⟩
    rw [hl2]
    exact ⟨⟨_, rfl, .cells rfl (FzL.same e1 (low_limbs _ _))⟩, ⟨_, rfl, .cells rfl (.cons (.same (by rw [hl2]) (show 0 < 5 by decide)) .nil)⟩, ⟨_, rfl, .cells rfl (.cons (.same (by congr 1; omega) trivial) .nil)⟩, ⟨_, rfl, .dfr⟩,
      ⟨_, rfl, .loop (FzFr.sub ⟨show 1 < 5 by decide, show 2 < 5 by decide, ⟨trivial, ⟨⟨low_natL _ a, trivial⟩, ⟨low_natL _ b, trivial⟩, trivial⟩⟩, trivial⟩ ⟨rfl, rfl, rfl, trivial⟩) (show 3 < 5 by decide)⟩, trivial⟩
end Go.Proofs.YtcdnonggajoghaaDoor
