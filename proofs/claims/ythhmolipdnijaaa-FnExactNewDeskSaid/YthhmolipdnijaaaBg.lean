/- Slopes of hills, the program's. -/
import Derived.Test.YthhmolipdnijaaaBf
set_option linter.unusedVariables false
set_option linter.unusedSimpArgs false
set_option linter.unnecessarySimpa false
open Go Go.V Go.Proofs
namespace Go.R
set_option maxRecDepth 100000
set_option linter.unusedSimpArgs false

theorem c_SlopeHill1 (x y : Int) : Con Try.prog 122 [iv x, iv y, .ptrR [fv 1082130432], .ptrR [fv 3212836864], .ptrR [fv 0]] (fv (slopeV x y)) [] := by
  refine con_of tabOK mixed ⟨19, [0,1,2,3,4,5,6,7,8,9,10,11,12,13,14,15,16,17,18], [], []⟩ rfl (by decide) rfl rfl rfl rfl ?_
  conv => whnf
  exact out0 rfl rfl

theorem c_toldHill (l : List Nat) (hl : l.length ≤ maxLen) (hv : hillB (3, 3, l) = true) : ConW Try.prog 173 [.agg [iv 3, iv 3, .own 0]] [(0, .row 25 f3 l)] (.tup [.agg [iv 3, iv 3, .own 0], bv true]) [(0, .row 25 f3 l)] := by
  refine conW_of tabOK mixed ⟨9, [0,1,2,3,4,5,6,7,8], [], [.own 0]⟩ rfl (by decide) rfl rfl rfl rfl rfl ?_
  conv => whnf
  refine .inl ⟨_, _, c_ValidHill (3, 3, l) hl, rfl, ?_⟩
  rw [hv]
  conv => whnf
  refine ⟨fun h => (by cases h), fun _ => ?_⟩
  conv => whnf
  exact ⟨rfl, [(0, 0)], rfl, rfl, ⟨⟨⟨rfl, rfl, rfl, rfl⟩, rfl, rfl⟩, trivial⟩, ⟨⟨rfl, rfl⟩, trivial⟩, rfl, rfl⟩

theorem slope_at : ∀ y, y < 3 → ∀ x, x < 3 → ((3 * y + x : Nat) : Int).tmod 3 = x ∧ IntKind.i64.wrap (((3 * y + x : Nat) : Int).tdiv 3) = y := by decide
theorem slopeL_ev {n v : Nat} (h : slopeV ((n : Int).tmod 3) (IntKind.i64.wrap ((n : Int).tdiv 3)) = v) : slopeL n ++ [v] = slopeL (n + 1) := by
  rw [slopeL_succ, h]
theorem len_one : 1 * 4 ≤ 140737488355328 ∧ 1 ≤ 140737488355328 := by decide
theorem slope_ev {x y k : Nat} (hy : y < 3) (hx : x < 3) (hk : k = 3 * y + x) : slopeV ((k : Int).tmod 3) (IntKind.i64.wrap ((k : Int).tdiv 3)) = slopeV x y := by
  subst hk
  rw [(slope_at y hy x hx).1, (slope_at y hy x hx).2]
theorem slope_hill : hillB (3, 3, slopeL 9) = true := by decide +kernel

abbrev slopeFn : AV := .fn 122 [.ptrR [fv 1082130432], .ptrR [fv 3212836864], .ptrR [fv 0]]
def slopeH : Nat → Heap
  | 0 => [(1, .box [iv 3, iv 3, nilV]), (0, .box [iv 0, iv 0, nilV])]
  | k + 1 => [(1, .box [iv 3, iv 3, .own 2]), (2, .row 25 f3 (slopeL (k + 1))), (0, .box [iv 0, iv 0, nilV])]

set_option maxHeartbeats 4000000 in
theorem c_made : Con Try.prog 121 [iv 3, iv 3, slopeFn] (.tup [.agg [iv 3, iv 3, .own 0], bv true]) [(0, .row 25 f3 (slopeL 9))] := by
  refine con_of tabOK mixed ⟨37, [0,1,2,6,7,8,9,10,14,15,16,18,19,20], [200008], []⟩ rfl (by decide) rfl rfl rfl rfl ?_
  conv => whnf
  refine vloop (X := Nat × Nat) (fun q => [(0, iv 3), (1, iv 3), (2, slopeFn), (6, .ptrO 0 0), (7, bv false), (8, .ptrO 1 0), (14, iv 3), (15, iv q.1)]) (fun q => slopeH q.2) (fun q => q.1 ≤ 3 ∧ q.2 = 3 * q.1) (fun q => 3 - q.1) (0, 0) ?_ ⟨by decide, rfl⟩ ?_
  · exact ⟨[(0, 0), (1, 1)], rfl, rfl, ⟨rfl, rfl, ⟨rfl, ⟨⟨rfl, rfl⟩, ⟨rfl, rfl⟩, ⟨rfl, rfl⟩, rfl⟩⟩, ⟨rfl, rfl⟩, rfl, ⟨rfl, rfl⟩, rfl, rfl, trivial⟩, ⟨⟨rfl, rfl, rfl, rfl, rfl⟩, ⟨rfl, rfl, rfl, rfl, rfl⟩, trivial⟩, rfl⟩
  rintro ⟨y, k⟩ ⟨hy, hk⟩ Q' hn hx hr
  replace hy : y ≤ 3 := hy
  replace hk : k = 3 * y := hk
  cases k with
  | zero =>
    conv => whnf
    refine ⟨fun h => ?_, fun h => ?_⟩
    · have hlt : y < 3 := by have h : ((y : Nat) : Int) < 3 := of_decide_eq_true h; omega
      have ey : Value.int .i64 (IntKind.i64.wrap ((y : Int) + 1)) = Value.int .i64 ((y + 1 : Nat) : Int) := vw (by omega) (by omega)
      clear h
      conv => whnf
      refine vloop (X := Nat × Nat) (fun q => [(0, iv 3), (1, iv 3), (2, slopeFn), (6, .ptrO 0 0), (7, bv false), (8, .ptrO 1 0), (9, iv y), (14, iv 3), (15, iv y), (18, iv 3), (19, iv q.1)]) (fun q => slopeH q.2) (fun q => q.1 ≤ 3 ∧ q.2 = 3 * y + q.1) (fun q => 3 - q.1) (0, 0) ?_ ⟨Nat.zero_le _, hk⟩ ?_
      · exact ⟨[(0, 0), (1, 1)], rfl, rfl, ⟨rfl, rfl, ⟨rfl, ⟨⟨rfl, rfl⟩, ⟨rfl, rfl⟩, ⟨rfl, rfl⟩, rfl⟩⟩, ⟨rfl, rfl⟩, rfl, ⟨rfl, rfl⟩, rfl, rfl, rfl, rfl, rfl, trivial⟩, ⟨⟨rfl, rfl, rfl, rfl, rfl⟩, ⟨rfl, rfl, rfl, rfl, rfl⟩, trivial⟩, rfl⟩
      clear hk
      rintro ⟨x, k⟩ ⟨hx3, hk⟩ Q2 hn2 hx2 hr2
      replace hx3 : x ≤ 3 := hx3
      replace hk : k = 3 * y + x := hk
      have ex : Value.int .i64 (IntKind.i64.wrap ((x : Int) + 1)) = Value.int .i64 ((x + 1 : Nat) : Int) := vw (by omega) (by omega)
      cases k with
      | zero =>
        conv => whnf
        refine ⟨fun h => ?_, fun h => ?_⟩
        · have hltx : x < 3 := by have h : ((x : Nat) : Int) < 3 := of_decide_eq_true h; omega
          clear h
          have ev : slopeV (((0 : Nat) : Int).tmod 3) (IntKind.i64.wrap (((0 : Nat) : Int).tdiv 3)) = slopeV x y := slope_ev hlt hltx hk
          have e2 : Cont.row 25 f3 (slopeL 0 ++ [slopeV x y]) = Cont.row 25 f3 (slopeL (0 + 1)) := congrArg (fun z => Cont.row 25 f3 z) (slopeL_ev ev)
          have e3 : ((slopeL 0).length + 1) * 4 ≤ 140737488355328 ∧ (slopeL 0).length + 1 ≤ 140737488355328 := by rw [slopeL_len]; omega
          have e4 : 3 - (x + 1) < 3 - x := by omega
          have e5 : x + 1 ≤ 3 ∧ 0 + 1 = 3 * y + (x + 1) := ⟨hltx, by omega⟩
          conv => whnf
          refine ⟨by decide +kernel, ?_⟩
          repeat' (conv => whnf
                   first
                   | exact trivial
                   | exact hn2 _ _ ⟨(x + 1, 0 + 1), ⟨[(0, 0), (1, 1), (2, 2)], rfl, rfl, ⟨rfl, rfl, ⟨rfl, ⟨⟨rfl, rfl⟩, ⟨rfl, rfl⟩, ⟨rfl, rfl⟩, rfl⟩⟩, ⟨rfl, rfl⟩, rfl, ⟨rfl, rfl⟩, rfl, rfl, rfl, rfl, ex, trivial⟩, ⟨⟨rfl, rfl, rfl, rfl, rfl⟩, ⟨rfl, e2⟩, ⟨rfl, rfl, rfl, rfl, rfl⟩, trivial⟩, rfl⟩, e5, e4⟩
                   | refine .inl ⟨_, _, c_SlopeHill1 _ _, rfl, ?_⟩
                   | refine ⟨len_one, ?_⟩
                   | refine ⟨?_, ?_⟩)
        · have hxe : x = 3 := by have h : ¬ ((x : Nat) : Int) < 3 := of_decide_eq_false h; omega
          omega
      | succ k =>
        conv => whnf
        refine ⟨fun h => ?_, fun h => ?_⟩
        · have hltx : x < 3 := by have h : ((x : Nat) : Int) < 3 := of_decide_eq_true h; omega
          clear h
          have ev : slopeV (((k + 1 : Nat) : Int).tmod 3) (IntKind.i64.wrap (((k + 1 : Nat) : Int).tdiv 3)) = slopeV x y := slope_ev hlt hltx hk
          have e2 : Cont.row 25 f3 (slopeL (k + 1) ++ [slopeV x y]) = Cont.row 25 f3 (slopeL (k + 1 + 1)) := congrArg (fun z => Cont.row 25 f3 z) (slopeL_ev ev)
          have e3 : ((slopeL (k + 1)).length + 1) * 4 ≤ 140737488355328 ∧ (slopeL (k + 1)).length + 1 ≤ 140737488355328 := by rw [slopeL_len]; omega
          have e4 : 3 - (x + 1) < 3 - x := by omega
          have e5 : x + 1 ≤ 3 ∧ k + 1 + 1 = 3 * y + (x + 1) := ⟨hltx, by omega⟩
          conv => whnf
          refine ⟨by decide +kernel, ?_⟩
          repeat' (conv => whnf
                   first
                   | exact trivial
                   | exact hn2 _ _ ⟨(x + 1, k + 1 + 1), ⟨[(0, 0), (1, 1), (3, 2)], rfl, rfl, ⟨rfl, rfl, ⟨rfl, ⟨⟨rfl, rfl⟩, ⟨rfl, rfl⟩, ⟨rfl, rfl⟩, rfl⟩⟩, ⟨rfl, rfl⟩, rfl, ⟨rfl, rfl⟩, rfl, rfl, rfl, rfl, ex, trivial⟩, ⟨⟨rfl, rfl, rfl, rfl, rfl⟩, ⟨rfl, e2⟩, ⟨rfl, rfl, rfl, rfl, rfl⟩, trivial⟩, rfl⟩, e5, e4⟩
                   | refine .inl ⟨_, _, c_SlopeHill1 _ _, rfl, ?_⟩
                   | refine ⟨e3, ?_⟩
                   | refine ⟨?_, ?_⟩)
        · have hxe : x = 3 := by have h : ¬ ((x : Nat) : Int) < 3 := of_decide_eq_false h; omega
          have e5 : y + 1 ≤ 3 ∧ k + 1 = 3 * (y + 1) := ⟨hlt, by omega⟩
          have e4 : 3 - (y + 1) < 3 - y := by omega
          refine hx2 _ _ _ ?_
          conv => whnf
          exact hn _ _ ⟨(y + 1, k + 1), ⟨[(0, 0), (1, 1), (2, 2)], rfl, rfl, ⟨rfl, rfl, ⟨rfl, ⟨⟨rfl, rfl⟩, ⟨rfl, rfl⟩, ⟨rfl, rfl⟩, rfl⟩⟩, ⟨rfl, rfl⟩, rfl, ⟨rfl, rfl⟩, rfl, ey, trivial⟩, ⟨⟨rfl, rfl, rfl, rfl, rfl⟩, ⟨rfl, rfl⟩, ⟨rfl, rfl, rfl, rfl, rfl⟩, trivial⟩, rfl⟩, e5, e4⟩
    · have hye : y = 3 := by have h : ¬ ((y : Nat) : Int) < 3 := of_decide_eq_false h; omega
      omega
  | succ k =>
    conv => whnf
    refine ⟨fun h => ?_, fun h => ?_⟩
    · have hlt : y < 3 := by have h : ((y : Nat) : Int) < 3 := of_decide_eq_true h; omega
      have ey : Value.int .i64 (IntKind.i64.wrap ((y : Int) + 1)) = Value.int .i64 ((y + 1 : Nat) : Int) := vw (by omega) (by omega)
      clear h
      conv => whnf
      refine vloop (X := Nat × Nat) (fun q => [(0, iv 3), (1, iv 3), (2, slopeFn), (6, .ptrO 0 0), (7, bv false), (8, .ptrO 1 0), (9, iv y), (14, iv 3), (15, iv y), (18, iv 3), (19, iv q.1)]) (fun q => slopeH q.2) (fun q => q.1 ≤ 3 ∧ q.2 = 3 * y + q.1) (fun q => 3 - q.1) (0, k + 1) ?_ ⟨Nat.zero_le _, hk⟩ ?_
      · exact ⟨[(0, 0), (1, 1), (2, 2)], rfl, rfl, ⟨rfl, rfl, ⟨rfl, ⟨⟨rfl, rfl⟩, ⟨rfl, rfl⟩, ⟨rfl, rfl⟩, rfl⟩⟩, ⟨rfl, rfl⟩, rfl, ⟨rfl, rfl⟩, rfl, rfl, rfl, rfl, rfl, trivial⟩, ⟨⟨rfl, rfl, rfl, rfl, rfl⟩, ⟨rfl, rfl⟩, ⟨rfl, rfl, rfl, rfl, rfl⟩, trivial⟩, rfl⟩
      clear hk
      rintro ⟨x, k⟩ ⟨hx3, hk⟩ Q2 hn2 hx2 hr2
      replace hx3 : x ≤ 3 := hx3
      replace hk : k = 3 * y + x := hk
      have ex : Value.int .i64 (IntKind.i64.wrap ((x : Int) + 1)) = Value.int .i64 ((x + 1 : Nat) : Int) := vw (by omega) (by omega)
      cases k with
      | zero =>
        conv => whnf
        refine ⟨fun h => ?_, fun h => ?_⟩
        · have hltx : x < 3 := by have h : ((x : Nat) : Int) < 3 := of_decide_eq_true h; omega
          clear h
          have ev : slopeV (((0 : Nat) : Int).tmod 3) (IntKind.i64.wrap (((0 : Nat) : Int).tdiv 3)) = slopeV x y := slope_ev hlt hltx hk
          have e2 : Cont.row 25 f3 (slopeL 0 ++ [slopeV x y]) = Cont.row 25 f3 (slopeL (0 + 1)) := congrArg (fun z => Cont.row 25 f3 z) (slopeL_ev ev)
          have e3 : ((slopeL 0).length + 1) * 4 ≤ 140737488355328 ∧ (slopeL 0).length + 1 ≤ 140737488355328 := by rw [slopeL_len]; omega
          have e4 : 3 - (x + 1) < 3 - x := by omega
          have e5 : x + 1 ≤ 3 ∧ 0 + 1 = 3 * y + (x + 1) := ⟨hltx, by omega⟩
          conv => whnf
          refine ⟨by decide +kernel, ?_⟩
          repeat' (conv => whnf
                   first
                   | exact trivial
                   | exact hn2 _ _ ⟨(x + 1, 0 + 1), ⟨[(0, 0), (1, 1), (2, 2)], rfl, rfl, ⟨rfl, rfl, ⟨rfl, ⟨⟨rfl, rfl⟩, ⟨rfl, rfl⟩, ⟨rfl, rfl⟩, rfl⟩⟩, ⟨rfl, rfl⟩, rfl, ⟨rfl, rfl⟩, rfl, rfl, rfl, rfl, ex, trivial⟩, ⟨⟨rfl, rfl, rfl, rfl, rfl⟩, ⟨rfl, e2⟩, ⟨rfl, rfl, rfl, rfl, rfl⟩, trivial⟩, rfl⟩, e5, e4⟩
                   | refine .inl ⟨_, _, c_SlopeHill1 _ _, rfl, ?_⟩
                   | refine ⟨len_one, ?_⟩
                   | refine ⟨?_, ?_⟩)
        · have hxe : x = 3 := by have h : ¬ ((x : Nat) : Int) < 3 := of_decide_eq_false h; omega
          omega
      | succ k =>
        conv => whnf
        refine ⟨fun h => ?_, fun h => ?_⟩
        · have hltx : x < 3 := by have h : ((x : Nat) : Int) < 3 := of_decide_eq_true h; omega
          clear h
          have ev : slopeV (((k + 1 : Nat) : Int).tmod 3) (IntKind.i64.wrap (((k + 1 : Nat) : Int).tdiv 3)) = slopeV x y := slope_ev hlt hltx hk
          have e2 : Cont.row 25 f3 (slopeL (k + 1) ++ [slopeV x y]) = Cont.row 25 f3 (slopeL (k + 1 + 1)) := congrArg (fun z => Cont.row 25 f3 z) (slopeL_ev ev)
          have e3 : ((slopeL (k + 1)).length + 1) * 4 ≤ 140737488355328 ∧ (slopeL (k + 1)).length + 1 ≤ 140737488355328 := by rw [slopeL_len]; omega
          have e4 : 3 - (x + 1) < 3 - x := by omega
          have e5 : x + 1 ≤ 3 ∧ k + 1 + 1 = 3 * y + (x + 1) := ⟨hltx, by omega⟩
          conv => whnf
          refine ⟨by decide +kernel, ?_⟩
          repeat' (conv => whnf
                   first
                   | exact trivial
                   | exact hn2 _ _ ⟨(x + 1, k + 1 + 1), ⟨[(0, 0), (1, 1), (3, 2)], rfl, rfl, ⟨rfl, rfl, ⟨rfl, ⟨⟨rfl, rfl⟩, ⟨rfl, rfl⟩, ⟨rfl, rfl⟩, rfl⟩⟩, ⟨rfl, rfl⟩, rfl, ⟨rfl, rfl⟩, rfl, rfl, rfl, rfl, ex, trivial⟩, ⟨⟨rfl, rfl, rfl, rfl, rfl⟩, ⟨rfl, e2⟩, ⟨rfl, rfl, rfl, rfl, rfl⟩, trivial⟩, rfl⟩, e5, e4⟩
                   | refine .inl ⟨_, _, c_SlopeHill1 _ _, rfl, ?_⟩
                   | refine ⟨e3, ?_⟩
                   | refine ⟨?_, ?_⟩)
        · have hxe : x = 3 := by have h : ¬ ((x : Nat) : Int) < 3 := of_decide_eq_false h; omega
          have e5 : y + 1 ≤ 3 ∧ k + 1 = 3 * (y + 1) := ⟨hlt, by omega⟩
          have e4 : 3 - (y + 1) < 3 - y := by omega
          refine hx2 _ _ _ ?_
          conv => whnf
          exact hn _ _ ⟨(y + 1, k + 1), ⟨[(0, 0), (1, 1), (2, 2)], rfl, rfl, ⟨rfl, rfl, ⟨rfl, ⟨⟨rfl, rfl⟩, ⟨rfl, rfl⟩, ⟨rfl, rfl⟩, rfl⟩⟩, ⟨rfl, rfl⟩, rfl, ⟨rfl, rfl⟩, rfl, ey, trivial⟩, ⟨⟨rfl, rfl, rfl, rfl, rfl⟩, ⟨rfl, rfl⟩, ⟨rfl, rfl, rfl, rfl, rfl⟩, trivial⟩, rfl⟩, e5, e4⟩
    · have hye : y = 3 := by have h : ¬ ((y : Nat) : Int) < 3 := of_decide_eq_false h; omega
      subst hye
      have hk : k = 8 := by omega
      subst hk
      refine hx _ _ _ ?_
      conv => whnf
      refine .inr ⟨[(2, 0)], [(0, .row 25 f3 (slopeL 9))], .tup [.agg [iv 3, iv 3, .own 0], bv true], [(0, .row 25 f3 (slopeL 9))], [(0, 2)], .tup [.agg [iv 3, iv 3, .own 2], bv true], [(2, .row 25 f3 (slopeL 9))],
        ⟨rfl, rfl, rfl, ⟨⟨rfl, rfl⟩, trivial⟩⟩, c_toldHill (slopeL 9) (by rw [slopeL_len]; decide) slope_hill, ⟨rfl, rfl, ⟨⟨rfl, rfl, rfl, rfl⟩, rfl, rfl⟩, ⟨⟨rfl, rfl⟩, trivial⟩⟩, rfl, rfl, rfl, ?_⟩
      conv => whnf
      exact ⟨rfl, [(2, 0)], rfl, rfl, ⟨⟨⟨rfl, rfl, rfl, rfl⟩, rfl, rfl⟩, trivial⟩, ⟨⟨rfl, rfl⟩, trivial⟩, rfl⟩

theorem c_SlopeHill : Con Try.prog 55 [iv 3, iv 3, fv 1082130432, fv 3212836864, fv 0] (.tup [.agg [iv 3, iv 3, .own 0], bv true]) [(0, .row 25 f3 (slopeL 9))] := by
  refine con_of tabOK mixed ⟨31, [0,1,2,3,4,5,6,7,8,9,10,11,12,13,14,15,16,17,18,19,20,21,22,23,24,25,26,27,28,29,30], [], []⟩ rfl (by decide) rfl rfl rfl rfl ?_
  conv => whnf
  refine .inl ⟨_, _, c_isSide _ _, rfl, ?_⟩
  conv => whnf
  refine ⟨fun h => absurd h (by decide), fun _ => ?_⟩
  conv => whnf
  refine .inl ⟨_, _, c_areFinite [1082130432, 3212836864, 0] (by decide), rfl, ?_⟩
  conv => whnf
  refine ⟨fun h => absurd h (by decide +kernel), fun _ => ?_⟩
  conv => whnf
  refine .inl ⟨.tup [.agg [iv 3, iv 3, .own 1], bv true], [(1, .row 25 f3 (slopeL 9))], c_made.less [(0, 1)] rfl rfl ⟨⟨rfl, rfl, rfl, rfl⟩, rfl, rfl⟩ ⟨⟨rfl, rfl⟩, trivial⟩ rfl, rfl, ?_⟩
  conv => whnf
  exact ⟨rfl, [(1, 0)], rfl, rfl, ⟨⟨⟨rfl, rfl, rfl, rfl⟩, rfl, rfl⟩, trivial⟩, ⟨⟨rfl, rfl⟩, trivial⟩, rfl⟩
end Go.R
