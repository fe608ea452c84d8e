/- The law of new desks. -/
import Derived.Test.YthhmolipdnijaaaBh
set_option linter.unusedVariables false
set_option linter.unusedSimpArgs false
set_option linter.unnecessarySimpa false
open Go Go.V Go.Proofs
namespace Go.R
set_option maxRecDepth 100000
set_option linter.unusedSimpArgs false

abbrev md1 : Dam := (12, 13, 14, 15)
abbrev md2 : Dam := (16, 17, 18, 19)

set_option maxHeartbeats 4000000 in
theorem c_markDamS : ConW Try.prog 128 [.own 0, iv 12] [(0, .row 87 damT [dam0, dam0])] (iv 20) [(0, .row 87 damT [md1, md2])] := by
  refine conW_of tabOK mixed ⟨41, [0,1,4,5,9], [], [.own 0]⟩ rfl (by decide) rfl rfl rfl rfl rfl ?_
  conv => whnf
  refine ⟨Nat, fun n => [(0, .own 0), (1, iv (12 + 4 * n : Nat)), (5, iv n)], fun n => match n with
    | 0 => [(0, .row 87 damT [dam0, dam0])]
    | 1 => [(0, .row 87 damT [md1, dam0])]
    | _ => [(0, .row 87 damT [md1, md2])], fun n => n ≤ 2, fun n => 2 - n, 0, ?_, Nat.zero_le _, fun n hn => ?_⟩
  · exact ⟨[(0, 0)], rfl, rfl, ⟨rfl, rfl, rfl, trivial⟩, ⟨⟨rfl, rfl⟩, trivial⟩, rfl, rfl⟩
  match n, hn with
  | 0, _ =>
    repeat' (conv => whnf
             first
             | exact ⟨1, ⟨[(0, 0)], rfl, rfl, ⟨rfl, (vw (by decide) (by decide)), (vw (by decide) (by decide)), trivial⟩, ⟨⟨rfl, rfl⟩, trivial⟩, rfl, rfl⟩, by decide, by decide⟩
             | refine ⟨fun _ => ?_, fun h => absurd h (by decide)⟩
             | refine ⟨⟨by decide, by decide⟩, ?_⟩
             | refine ⟨_, rfl, ?_⟩)
  | 1, _ =>
    repeat' (conv => whnf
             first
             | exact ⟨2, ⟨[(0, 0)], rfl, rfl, ⟨rfl, (vw (by decide) (by decide)), (vw (by decide) (by decide)), trivial⟩, ⟨⟨rfl, rfl⟩, trivial⟩, rfl, rfl⟩, by decide, by decide⟩
             | refine ⟨fun _ => ?_, fun h => absurd h (by decide)⟩
             | refine ⟨⟨by decide, by decide⟩, ?_⟩
             | refine ⟨_, rfl, ?_⟩)
  | 2, _ =>
    conv => whnf
    refine ⟨fun h => absurd h (by decide), fun _ => ?_⟩
    conv => whnf
    exact ⟨rfl, [(0, 0)], rfl, rfl, ⟨rfl, trivial⟩, ⟨⟨rfl, rfl⟩, trivial⟩, rfl, rfl⟩

set_option maxHeartbeats 4000000 in
theorem c_heldDamS : Con Try.prog 130 [.sl false damT [md1, md2], iv 12] (iv 20) [] := by
  refine con_of tabOK mixed ⟨49, [0,1,4,5,9,18,27,36,45], [], []⟩ rfl (by decide) rfl rfl rfl rfl ?_
  conv => whnf
  refine ⟨Nat, fun n => [(0, .sl false damT [md1, md2]), (1, iv (12 + 4 * n : Nat)), (5, iv n)], fun _ => [], fun n => n ≤ 2, fun n => 2 - n, 0, ?_, Nat.zero_le _, fun n hn => ?_⟩
  · exact weak0 ⟨⟨trivial, rfl⟩, rfl, rfl, trivial⟩
  match n, hn with
  | 0, _ =>
    repeat' (conv => whnf
             first
             | exact ⟨1, weak0 ⟨⟨trivial, rfl⟩, (vw (by decide) (by decide)), (vw (by decide) (by decide)), trivial⟩, by decide, by decide⟩
             | refine ⟨fun _ => ?_, fun h => absurd h (by decide)⟩
             | refine ⟨fun h => absurd h (by decide), fun _ => ?_⟩
             | refine idx (i := 0) (show 0 < [md1, md2].length by decide) ?_)
  | 1, _ =>
    repeat' (conv => whnf
             first
             | exact ⟨2, weak0 ⟨⟨trivial, rfl⟩, (vw (by decide) (by decide)), (vw (by decide) (by decide)), trivial⟩, by decide, by decide⟩
             | refine ⟨fun _ => ?_, fun h => absurd h (by decide)⟩
             | refine ⟨fun h => absurd h (by decide), fun _ => ?_⟩
             | refine idx (i := 1) (show 1 < [md1, md2].length by decide) ?_)
  | 2, _ =>
    conv => whnf
    refine ⟨fun h => absurd h (by decide), fun _ => ?_⟩
    conv => whnf
    exact out0 rfl rfl

theorem aft9 : afterI 9 1 = 10 := by decide +kernel
theorem aft2a : afterI 2 10 = 12 := by decide +kernel
theorem aft2b : afterI 2 20 = 22 := by decide +kernel
theorem mk2a : marksI 2 10 = [10, 11] := by decide +kernel
theorem mk2b : marksI 2 20 = [20, 21] := by decide +kernel

theorem c_markHill : ConW Try.prog 60 [.agg [iv 3, iv 3, .own 0], iv 1] [(0, .row 25 f3 (slopeL 9))] (iv 10) [(0, .row 25 f3 (marksF 9 1))] := by
  have m := c_markFloat32S (slopeL 9) 1 (by rw [slopeL_len]; decide)
  rw [slopeL_len, aft9] at m
  refine conW_of tabOK mixed ⟨10, [0,1,2,3,4,5,6,7,8,9], [], [.own 0]⟩ rfl (by decide) rfl rfl rfl rfl rfl ?_
  conv => whnf
  refine .inr ⟨[(0, 0)], [(0, .row 25 f3 (slopeL 9))], iv 10, [(0, .row 25 f3 (marksF 9 1))], [(0, 0)], iv 10, [(0, .row 25 f3 (marksF 9 1))], ⟨rfl, rfl, rfl, ⟨⟨rfl, rfl⟩, trivial⟩⟩, m, ⟨rfl, rfl, rfl, ⟨⟨rfl, rfl⟩, trivial⟩⟩, rfl, rfl, rfl, ?_⟩
  conv => whnf
  exact ⟨rfl, [(0, 0)], rfl, rfl, ⟨rfl, trivial⟩, ⟨⟨rfl, rfl⟩, trivial⟩, rfl, rfl⟩

abbrev rivH (p : List Int) (q : List Dam) (r : List Int) : Heap := [(0, .row 2 i6 p), (1, .row 87 damT q), (2, .row 2 i6 r)]
abbrev G3 : List AV := [.own 0, .own 1, .own 2]

set_option maxHeartbeats 4000000 in
theorem c_markRiver : ConW Try.prog 61 [.agg G3, iv 10] (rivH [1, -1] [dam0, dam0] [0, 0]) (iv 22) (rivH [10, 11] [md1, md2] [20, 21]) := by
  have m1 := c_markInt64S [1, -1] 10 (by decide)
  rw [show ([1, -1] : List Int).length = 2 from rfl, aft2a, mk2a] at m1
  have m3 := c_markInt64S [0, 0] 20 (by decide)
  rw [show ([0, 0] : List Int).length = 2 from rfl, aft2b, mk2b] at m3
  refine conW_of tabOK mixed ⟨18, [0,1,2,3,4,5,6,7,8,9,10,11,12,13,14,15,16,17], [], G3⟩ rfl (by decide) rfl rfl rfl rfl rfl ?_
  conv => whnf
  refine .inr ⟨[(0, 0)], [(0, .row 2 i6 [1, -1])], iv 12, [(0, .row 2 i6 [10, 11])], [(0, 0)], iv 12, [(0, .row 2 i6 [10, 11])], ⟨rfl, rfl, rfl, ⟨⟨rfl, rfl⟩, trivial⟩⟩, m1, ⟨rfl, rfl, rfl, ⟨⟨rfl, rfl⟩, trivial⟩⟩, rfl, rfl, rfl, ?_⟩
  conv => whnf
  refine .inr ⟨[(1, 0)], [(0, .row 87 damT [dam0, dam0])], iv 20, [(0, .row 87 damT [md1, md2])], [(0, 1)], iv 20, [(1, .row 87 damT [md1, md2])], ⟨rfl, rfl, rfl, ⟨⟨rfl, rfl⟩, trivial⟩⟩, c_markDamS, ⟨rfl, rfl, rfl, ⟨⟨rfl, rfl⟩, trivial⟩⟩, rfl, rfl, rfl, ?_⟩
  conv => whnf
  refine .inr ⟨[(2, 0)], [(0, .row 2 i6 [0, 0])], iv 22, [(0, .row 2 i6 [20, 21])], [(0, 2)], iv 22, [(2, .row 2 i6 [20, 21])], ⟨rfl, rfl, rfl, ⟨⟨rfl, rfl⟩, trivial⟩⟩, m3, ⟨rfl, rfl, rfl, ⟨⟨rfl, rfl⟩, trivial⟩⟩, rfl, rfl, rfl, ?_⟩
  conv => whnf
  exact ⟨rfl, [(0, 0), (1, 1), (2, 2)], rfl, rfl, ⟨rfl, trivial⟩, ⟨⟨rfl, rfl⟩, ⟨rfl, rfl⟩, ⟨rfl, rfl⟩, trivial⟩, rfl, rfl, rfl, rfl⟩

def markD : Desk := ((3, 3, marksF 9 1), newD.2.1, newD.2.2.1, ([10, 11], [md1, md2], [20, 21]))
abbrev markH (a b c d : Nat) : Heap := [(a, .row 25 f3 (marksF 9 1)), (b, .row 2 i6 [10, 11]), (c, .row 87 damT [md1, md2]), (d, .row 2 i6 [20, 21])]
abbrev G4 : List AV := [.own 0, .own 1, .own 2, .own 3]

set_option maxHeartbeats 8000000 in
theorem c_markDesk : ConW Try.prog 12 [newA 0 1 2 3, iv 1] (newH 0 1 2 3) (iv 22) (markH 0 1 2 3) := by
  refine conW_of tabOK mixed ⟨14, [0,1,2,3,4,5,6,7,8,9,10,11,12,13], [], G4⟩ rfl (by decide) rfl rfl rfl rfl rfl ?_
  conv => whnf
  refine .inr ⟨[(0, 0)], [(0, .row 25 f3 (slopeL 9))], iv 10, [(0, .row 25 f3 (marksF 9 1))], [(0, 0)], iv 10, [(0, .row 25 f3 (marksF 9 1))], ⟨rfl, rfl, rfl, ⟨⟨rfl, rfl⟩, trivial⟩⟩, c_markHill, ⟨rfl, rfl, rfl, ⟨⟨rfl, rfl⟩, trivial⟩⟩, rfl, rfl, rfl, ?_⟩
  conv => whnf
  refine .inr ⟨[(1, 0), (2, 1), (3, 2)], rivH [1, -1] [dam0, dam0] [0, 0], iv 22, rivH [10, 11] [md1, md2] [20, 21], [(0, 1), (1, 2), (2, 3)], iv 22, [(1, .row 2 i6 [10, 11]), (2, .row 87 damT [md1, md2]), (3, .row 2 i6 [20, 21])], ⟨rfl, rfl, rfl, ⟨⟨rfl, rfl⟩, ⟨rfl, rfl⟩, ⟨rfl, rfl⟩, trivial⟩⟩, c_markRiver, ⟨rfl, rfl, rfl, ⟨⟨rfl, rfl⟩, ⟨rfl, rfl⟩, ⟨rfl, rfl⟩, trivial⟩⟩, rfl, rfl, rfl, ?_⟩
  conv => whnf
  exact ⟨rfl, [(0, 0), (1, 1), (2, 2), (3, 3)], rfl, rfl, ⟨rfl, trivial⟩, ⟨⟨rfl, rfl⟩, ⟨rfl, rfl⟩, ⟨rfl, rfl⟩, ⟨rfl, rfl⟩, trivial⟩, rfl, rfl, rfl, rfl, rfl⟩

theorem hf9 : heldF (marksF 9 1) 1 = 10 := by decide +kernel
theorem hi2a : heldI [10, 11] 10 = 12 := by decide +kernel
theorem hi2b : heldI [20, 21] 20 = 22 := by decide +kernel

theorem c_heldHill : Con Try.prog 62 [.agg (hillC (3, 3, marksF 9 1)), iv 1] (iv 10) [] := by
  have k := c_heldFloat32S (marksF 9 1) 1 (by rw [marksF_len]; decide)
  rw [hf9] at k
  refine con_of tabOK mixed ⟨12, [0,1,2,3,4,5,6,7,8,9,10,11], [], []⟩ rfl (by decide) rfl rfl rfl rfl ?_
  conv => whnf
  refine .inl ⟨_, _, k, rfl, ?_⟩
  conv => whnf
  refine ⟨fun h => absurd h (by decide), fun _ => ?_⟩
  conv => whnf
  exact out0 rfl rfl

theorem c_heldRiver : Con Try.prog 63 [.agg (riverC ([10, 11], [md1, md2], [20, 21])), iv 10] (iv 22) [] := by
  have k1 := c_heldInt64S [10, 11] 10 (by decide)
  rw [hi2a] at k1
  have k3 := c_heldInt64S [20, 21] 20 (by decide)
  rw [hi2b] at k3
  refine con_of tabOK mixed ⟨24, [0,1,2,3,4,5,6,7,8,9,10,11,12,13,14,15,16,17,18,19,20,21,22,23], [], []⟩ rfl (by decide) rfl rfl rfl rfl ?_
  conv => whnf
  refine .inl ⟨_, _, k1, rfl, ?_⟩
  conv => whnf
  refine ⟨fun h => absurd h (by decide), fun _ => ?_⟩
  conv => whnf
  refine .inl ⟨_, _, c_heldDamS, rfl, ?_⟩
  conv => whnf
  refine ⟨fun h => absurd h (by decide), fun _ => ?_⟩
  conv => whnf
  refine .inl ⟨_, _, k3, rfl, ?_⟩
  conv => whnf
  refine ⟨fun h => absurd h (by decide), fun _ => ?_⟩
  conv => whnf
  exact out0 rfl rfl

theorem c_heldDesk : Con Try.prog 13 [.agg (deskC markD), iv 1] (iv 22) [] := by
  refine con_of tabOK mixed ⟨18, [0,1,2,3,4,5,6,7,8,9,10,11,12,13,14,15,16,17], [], []⟩ rfl (by decide) rfl rfl rfl rfl ?_
  conv => whnf
  refine .inl ⟨_, _, c_heldHill, rfl, ?_⟩
  conv => whnf
  refine ⟨fun h => absurd h (by decide), fun _ => ?_⟩
  conv => whnf
  refine .inl ⟨_, _, c_heldRiver, rfl, ?_⟩
  conv => whnf
  refine ⟨fun h => absurd h (by decide), fun _ => ?_⟩
  conv => whnf
  exact out0 rfl rfl
end Go.R

open Go Go.V Go.Proofs
namespace Go.R
set_option maxRecDepth 100000
set_option linter.unusedSimpArgs false

abbrev newC (a b c d : Nat) : List AV := [iv 3, iv 3, .own a, fv 1065353216, fv 0, fv 1082130432, fv 1048576000, fv 0, fv 1073741824, fv 0, fv 981467136, fv 1023410176, .own b, .own c, .own d]

/-- The marks are held, once more. -/
theorem nd_7 : SF Try.prog tab 36 [] 3 (3 + 1 + 2 + 4 + 1 + 1) ([(1, .ptrO 4 0), (2, .ptrO 9 0), (3, iv 22), (5, .ptrO 14 0)]) ([(14, .box (newC 10 11 12 13)), (9, .box (newC 5 6 7 8)), (4, .box (newC 0 1 2 3))] ++ newH 10 11 12 13 ++ markH 5 6 7 8 ++ newH 0 1 2 3) (bv true) [] := by
  refine SF.last tabOK mixed (3 + 1 + 2 + 4 + 1 + 1) ⟨36, [0,1,2,3,4,32,35], [], []⟩ ?_
  conv => whnf
  refine .inl ⟨_, _, c_heldDesk, rfl, ?_⟩
  conv => whnf
  refine ⟨fun h => absurd h (by decide), fun _ => ?_⟩
  conv => whnf
  refine ⟨fun h => absurd h (by decide), fun _ => ?_⟩
  conv => whnf
  exact out0 rfl rfl

set_option maxHeartbeats 8000000 in
theorem nd_6 : SF Try.prog tab 36 [] 3 (3 + 1 + 2 + 4 + 1) ([(1, .ptrO 4 0), (2, .ptrO 9 0), (3, iv 22), (5, .ptrO 14 0)]) ([(14, .box (newC 10 11 12 13)), (9, .box (newC 5 6 7 8)), (4, .box (newC 0 1 2 3))] ++ newH 10 11 12 13 ++ markH 5 6 7 8 ++ newH 0 1 2 3) (bv true) [] := by
  refine SF.parts tabOK mixed (3 + 1 + 2 + 4 + 1) 1 ⟨36, [1,2,3,5,27], [], []⟩ (X := Unit) (fun _ => [(1, .ptrO 4 0), (2, .ptrO 9 0), (3, iv 22), (5, .ptrO 14 0)]) (fun _ => [(14, .box (newC 10 11 12 13)), (9, .box (newC 5 6 7 8)), (4, .box (newC 0 1 2 3))] ++ newH 10 11 12 13 ++ markH 5 6 7 8 ++ newH 0 1 2 3) (fun _ => True) (by decide +kernel) ?_ (fun _ _ => nd_7)
  conv => whnf
  refine .inl ⟨_, _, c_eqDesk newD (by decide) (by decide) (by decide) (by decide), rfl, ?_⟩
  conv => whnf
  refine ⟨fun h => (by cases h), fun _ => ?_⟩
  conv => whnf
  exact ⟨(), ⟨[(0, 0), (1, 1), (2, 2), (3, 3), (4, 4), (5, 5), (6, 6), (7, 7), (8, 8), (9, 9), (10, 10), (11, 11), (12, 12), (13, 13), (14, 14)], rfl, rfl, ⟨⟨rfl, rfl⟩, ⟨rfl, rfl⟩, rfl, ⟨rfl, rfl⟩, trivial⟩, ⟨⟨rfl, rfl, rfl, rfl, rfl, rfl, rfl, rfl, rfl, rfl, rfl, rfl, rfl, rfl, rfl, rfl, rfl⟩, ⟨rfl, rfl, rfl, rfl, rfl, rfl, rfl, rfl, rfl, rfl, rfl, rfl, rfl, rfl, rfl, rfl, rfl⟩, ⟨rfl, rfl, rfl, rfl, rfl, rfl, rfl, rfl, rfl, rfl, rfl, rfl, rfl, rfl, rfl, rfl, rfl⟩, ⟨rfl, rfl⟩, ⟨rfl, rfl⟩, ⟨rfl, rfl⟩, ⟨rfl, rfl⟩, ⟨rfl, rfl⟩, ⟨rfl, rfl⟩, ⟨rfl, rfl⟩, ⟨rfl, rfl⟩, ⟨rfl, rfl⟩, ⟨rfl, rfl⟩, ⟨rfl, rfl⟩, ⟨rfl, rfl⟩, trivial⟩, rfl⟩, trivial⟩

set_option maxHeartbeats 8000000 in
theorem nd_5 : SF Try.prog tab 36 [] 3 (3 + 1 + 2 + 4) ([(1, .ptrO 4 0), (2, .ptrO 9 0), (3, iv 22)]) ([(9, .box (newC 5 6 7 8)), (4, .box (newC 0 1 2 3))] ++ markH 5 6 7 8 ++ newH 0 1 2 3) (bv true) [] := by
  refine SF.parts tabOK mixed (3 + 1 + 2 + 4) 1 ⟨36, [1,2,3,5], [], []⟩ (X := Unit) (fun _ => [(1, .ptrO 4 0), (2, .ptrO 9 0), (3, iv 22), (5, .ptrO 14 0)]) (fun _ => [(14, .box (newC 10 11 12 13)), (9, .box (newC 5 6 7 8)), (4, .box (newC 0 1 2 3))] ++ newH 10 11 12 13 ++ markH 5 6 7 8 ++ newH 0 1 2 3) (fun _ => True) (by decide +kernel) ?_ (fun _ _ => nd_6)
  conv => whnf
  refine .inl ⟨newA 10 11 12 13, newH 10 11 12 13, c_implNew.less [(0, 10), (1, 11), (2, 12), (3, 13)] rfl rfl ⟨rfl, rfl, rfl, rfl, rfl, rfl, rfl, rfl, rfl, rfl, rfl, rfl, rfl, rfl, rfl, rfl⟩ ⟨⟨rfl, rfl⟩, ⟨rfl, rfl⟩, ⟨rfl, rfl⟩, ⟨rfl, rfl⟩, trivial⟩ rfl, rfl, ?_⟩
  conv => whnf
  exact ⟨(), ⟨[(0, 0), (1, 1), (2, 2), (3, 3), (4, 4), (5, 5), (6, 6), (7, 7), (8, 8), (9, 9), (10, 10), (11, 11), (12, 12), (13, 13), (14, 14)], rfl, rfl, ⟨⟨rfl, rfl⟩, ⟨rfl, rfl⟩, rfl, ⟨rfl, rfl⟩, trivial⟩, ⟨⟨rfl, rfl, rfl, rfl, rfl, rfl, rfl, rfl, rfl, rfl, rfl, rfl, rfl, rfl, rfl, rfl, rfl⟩, ⟨rfl, rfl, rfl, rfl, rfl, rfl, rfl, rfl, rfl, rfl, rfl, rfl, rfl, rfl, rfl, rfl, rfl⟩, ⟨rfl, rfl, rfl, rfl, rfl, rfl, rfl, rfl, rfl, rfl, rfl, rfl, rfl, rfl, rfl, rfl, rfl⟩, ⟨rfl, rfl⟩, ⟨rfl, rfl⟩, ⟨rfl, rfl⟩, ⟨rfl, rfl⟩, ⟨rfl, rfl⟩, ⟨rfl, rfl⟩, ⟨rfl, rfl⟩, ⟨rfl, rfl⟩, ⟨rfl, rfl⟩, ⟨rfl, rfl⟩, ⟨rfl, rfl⟩, ⟨rfl, rfl⟩, trivial⟩, rfl⟩, trivial⟩

set_option maxHeartbeats 8000000 in
theorem nd_4 : SF Try.prog tab 36 [] 3 (3 + 1 + 2) ([(1, .ptrO 4 0), (2, .ptrO 9 0), (3, iv 22)]) ([(9, .box (newC 5 6 7 8)), (4, .box (newC 0 1 2 3))] ++ markH 5 6 7 8 ++ newH 0 1 2 3) (bv true) [] := by
  refine SF.parts tabOK mixed (3 + 1 + 2) 4 ⟨36, [1,2,3,4,19,22], [], []⟩ (X := Unit) (fun _ => [(1, .ptrO 4 0), (2, .ptrO 9 0), (3, iv 22)]) (fun _ => [(9, .box (newC 5 6 7 8)), (4, .box (newC 0 1 2 3))] ++ markH 5 6 7 8 ++ newH 0 1 2 3) (fun _ => True) (by decide +kernel) ?_ (fun _ _ => nd_5)
  conv => whnf
  refine .inl ⟨_, _, c_heldDesk, rfl, ?_⟩
  conv => whnf
  refine ⟨fun h => absurd h (by decide), fun _ => ?_⟩
  conv => whnf
  refine ⟨fun h => absurd h (by decide), fun _ => ?_⟩
  conv => whnf
  exact ⟨(), ⟨[(0, 0), (1, 1), (2, 2), (3, 3), (4, 4), (5, 5), (6, 6), (7, 7), (8, 8), (9, 9)], rfl, rfl, ⟨⟨rfl, rfl⟩, ⟨rfl, rfl⟩, rfl, trivial⟩, ⟨⟨rfl, rfl, rfl, rfl, rfl, rfl, rfl, rfl, rfl, rfl, rfl, rfl, rfl, rfl, rfl, rfl, rfl⟩, ⟨rfl, rfl, rfl, rfl, rfl, rfl, rfl, rfl, rfl, rfl, rfl, rfl, rfl, rfl, rfl, rfl, rfl⟩, ⟨rfl, rfl⟩, ⟨rfl, rfl⟩, ⟨rfl, rfl⟩, ⟨rfl, rfl⟩, ⟨rfl, rfl⟩, ⟨rfl, rfl⟩, ⟨rfl, rfl⟩, ⟨rfl, rfl⟩, trivial⟩, rfl⟩, trivial⟩

set_option maxHeartbeats 8000000 in
theorem nd_3 : SF Try.prog tab 36 [] 3 (3 + 1) ([(1, .ptrO 4 0), (2, .ptrO 9 0)]) ([(9, .box (newC 5 6 7 8)), (4, .box (newC 0 1 2 3))] ++ newH 5 6 7 8 ++ newH 0 1 2 3) (bv true) [] := by
  refine SF.parts tabOK mixed (3 + 1) 2 ⟨36, [1,2,3], [], []⟩ (X := Unit) (fun _ => [(1, .ptrO 4 0), (2, .ptrO 9 0), (3, iv 22)]) (fun _ => [(9, .box (newC 5 6 7 8)), (4, .box (newC 0 1 2 3))] ++ markH 5 6 7 8 ++ newH 0 1 2 3) (fun _ => True) (by decide +kernel) ?_ (fun _ _ => nd_4)
  conv => whnf
  refine .inr ⟨[(5, 0), (6, 1), (7, 2), (8, 3)], newH 0 1 2 3, iv 22, markH 0 1 2 3, [(0, 5), (1, 6), (2, 7), (3, 8)], iv 22, markH 5 6 7 8, ⟨rfl, rfl, rfl, ⟨⟨rfl, rfl⟩, ⟨rfl, rfl⟩, ⟨rfl, rfl⟩, ⟨rfl, rfl⟩, trivial⟩⟩, c_markDesk, ⟨rfl, rfl, rfl, ⟨⟨rfl, rfl⟩, ⟨rfl, rfl⟩, ⟨rfl, rfl⟩, ⟨rfl, rfl⟩, trivial⟩⟩, rfl, rfl, rfl, ?_⟩
  conv => whnf
  exact ⟨(), ⟨[(0, 0), (1, 1), (2, 2), (3, 3), (4, 4), (5, 5), (6, 6), (7, 7), (8, 8), (9, 9)], rfl, rfl, ⟨⟨rfl, rfl⟩, ⟨rfl, rfl⟩, rfl, trivial⟩, ⟨⟨rfl, rfl, rfl, rfl, rfl, rfl, rfl, rfl, rfl, rfl, rfl, rfl, rfl, rfl, rfl, rfl, rfl⟩, ⟨rfl, rfl, rfl, rfl, rfl, rfl, rfl, rfl, rfl, rfl, rfl, rfl, rfl, rfl, rfl, rfl, rfl⟩, ⟨rfl, rfl⟩, ⟨rfl, rfl⟩, ⟨rfl, rfl⟩, ⟨rfl, rfl⟩, ⟨rfl, rfl⟩, ⟨rfl, rfl⟩, ⟨rfl, rfl⟩, ⟨rfl, rfl⟩, trivial⟩, rfl⟩, trivial⟩

set_option maxHeartbeats 8000000 in
theorem nd_2 : SF Try.prog tab 36 [] 3 (0 + 3) ([(1, .ptrO 4 0), (2, .ptrO 9 0)]) ([(9, .box (newC 5 6 7 8)), (4, .box (newC 0 1 2 3))] ++ newH 5 6 7 8 ++ newH 0 1 2 3) (bv true) [] := by
  refine SF.parts tabOK mixed (0 + 3) 1 ⟨36, [1,2,11], [], []⟩ (X := Unit) (fun _ => [(1, .ptrO 4 0), (2, .ptrO 9 0)]) (fun _ => [(9, .box (newC 5 6 7 8)), (4, .box (newC 0 1 2 3))] ++ newH 5 6 7 8 ++ newH 0 1 2 3) (fun _ => True) (by decide +kernel) ?_ (fun _ _ => nd_3)
  conv => whnf
  refine .inl ⟨_, _, c_eqDesk newD (by decide) (by decide) (by decide) (by decide), rfl, ?_⟩
  conv => whnf
  refine ⟨fun h => (by cases h), fun _ => ?_⟩
  conv => whnf
  exact ⟨(), ⟨[(0, 0), (1, 1), (2, 2), (3, 3), (4, 4), (5, 5), (6, 6), (7, 7), (8, 8), (9, 9)], rfl, rfl, ⟨⟨rfl, rfl⟩, ⟨rfl, rfl⟩, trivial⟩, ⟨⟨rfl, rfl, rfl, rfl, rfl, rfl, rfl, rfl, rfl, rfl, rfl, rfl, rfl, rfl, rfl, rfl, rfl⟩, ⟨rfl, rfl, rfl, rfl, rfl, rfl, rfl, rfl, rfl, rfl, rfl, rfl, rfl, rfl, rfl, rfl, rfl⟩, ⟨rfl, rfl⟩, ⟨rfl, rfl⟩, ⟨rfl, rfl⟩, ⟨rfl, rfl⟩, ⟨rfl, rfl⟩, ⟨rfl, rfl⟩, ⟨rfl, rfl⟩, ⟨rfl, rfl⟩, trivial⟩, rfl⟩, trivial⟩

set_option maxHeartbeats 8000000 in
theorem c_FnExactNewDesk : Con Try.prog 3 [] (bv true) [] := by
  refine SF.con0 tabOK 36 rfl (by decide) rfl rfl rfl ?_
  refine SF.parts tabOK mixed 0 3 ⟨36, [1,2], [], []⟩ (X := Unit) (fun _ => [(1, .ptrO 4 0), (2, .ptrO 9 0)]) (fun _ => [(9, .box (newC 5 6 7 8)), (4, .box (newC 0 1 2 3))] ++ newH 5 6 7 8 ++ newH 0 1 2 3) (fun _ => True) (by decide +kernel) ?_ (fun _ _ => nd_2)
  conv => whnf
  refine .inl ⟨_, _, c_specNew, rfl, ?_⟩
  conv => whnf
  refine .inl ⟨newA 5 6 7 8, newH 5 6 7 8, c_implNew.less [(0, 5), (1, 6), (2, 7), (3, 8)] rfl rfl ⟨rfl, rfl, rfl, rfl, rfl, rfl, rfl, rfl, rfl, rfl, rfl, rfl, rfl, rfl, rfl, rfl⟩ ⟨⟨rfl, rfl⟩, ⟨rfl, rfl⟩, ⟨rfl, rfl⟩, ⟨rfl, rfl⟩, trivial⟩ rfl, rfl, ?_⟩
  conv => whnf
  exact ⟨(), ⟨[(0, 0), (1, 1), (2, 2), (3, 3), (4, 4), (5, 5), (6, 6), (7, 7), (8, 8), (9, 9)], rfl, rfl, ⟨⟨rfl, rfl⟩, ⟨rfl, rfl⟩, trivial⟩, ⟨⟨rfl, rfl, rfl, rfl, rfl, rfl, rfl, rfl, rfl, rfl, rfl, rfl, rfl, rfl, rfl, rfl, rfl⟩, ⟨rfl, rfl, rfl, rfl, rfl, rfl, rfl, rfl, rfl, rfl, rfl, rfl, rfl, rfl, rfl, rfl, rfl⟩, ⟨rfl, rfl⟩, ⟨rfl, rfl⟩, ⟨rfl, rfl⟩, ⟨rfl, rfl⟩, ⟨rfl, rfl⟩, ⟨rfl, rfl⟩, ⟨rfl, rfl⟩, ⟨rfl, rfl⟩, trivial⟩, rfl⟩, trivial⟩
end Go.R
