/- Lines of dams. -/
import Derived.Test.YthhmolipdnijaaaBe
import Derived.Test.YthhmolipdnijaaaVg
set_option linter.unusedVariables false
set_option linter.unusedSimpArgs false
set_option linter.unnecessarySimpa false
open Go Go.V Go.Proofs
namespace Go.R
set_option maxRecDepth 100000
set_option linter.unusedSimpArgs false

abbrev nilV : AV := .val (.slice none 0 0)
/-- A slope's height. -/
def slopeV (x y : Int) : Nat := fadd .f32 (fadd .f32 1082130432 (fmul .f32 3212836864 (fofInt .f32 x))) (fmul .f32 0 (fofInt .f32 y))
def slopeL (n : Nat) : List Nat := (List.range n).map fun (i : Nat) => slopeV ((i : Int).tmod 3) (IntKind.i64.wrap ((i : Int).tdiv 3))
theorem slopeL_succ (n : Nat) : slopeL (n + 1) = slopeL n ++ [slopeV ((n : Int).tmod 3) (IntKind.i64.wrap ((n : Int).tdiv 3))] := by
  unfold slopeL
  rw [List.range_succ, List.map_append]; rfl
theorem slopeL_len (n : Nat) : (slopeL n).length = n := by simp [slopeL]

set_option maxHeartbeats 4000000 in
theorem c_l02Slope : Con Try.prog 53 [iv 3, iv 3, fv 1082130432, fv 3212836864, fv 0] (.agg [iv 3, iv 3, .own 0]) [(0, .row 25 f3 (slopeL 9))] := by
  refine con_of tabOK mixed ⟨47, [0,1,2,3,4,10,11,12,13,22], [16, 200006], []⟩ rfl (by decide) rfl rfl rfl rfl ?_
  conv => whnf
  refine vloop (X := Nat) (fun i => [(0, iv 3), (1, iv 3), (2, fv 1082130432), (3, fv 3212836864), (4, fv 0), (10, .ptrO 0 0), (11, .ptrO 2 0), (12, iv i)]) (fun i => [(2, .box [iv 3, iv 3, .own 1]), (1, .row 25 f3 (slopeL i)), (0, .box [iv 0, iv 0, nilV])]) (fun i => i ≤ 9) (fun i => 9 - i) 0 ?_ (Nat.zero_le _) ?_
  · exact ⟨[(0, 0), (1, 1), (2, 2)], rfl, rfl, ⟨rfl, rfl, rfl, rfl, rfl, ⟨rfl, rfl⟩, ⟨rfl, rfl⟩, rfl, trivial⟩, ⟨⟨rfl, rfl, rfl, rfl, rfl⟩, ⟨rfl, rfl⟩, ⟨rfl, rfl, rfl, rfl, rfl⟩, trivial⟩, rfl⟩
  intro i hi Q' hn hx hr
  conv => whnf
  refine ⟨fun h => ?_, fun h => ?_⟩
  · have hlt : i < 9 := by
      have h := of_decide_eq_true h
      rw [show IntKind.i64.wrap (3 * 3 : Int) = 9 by decide] at h
      omega
    have e1 : Value.int .i64 (IntKind.i64.wrap ((i : Int) + 1)) = Value.int .i64 ((i + 1 : Nat) : Int) := vw (by omega) (by omega)
    have e2 : Cont.row 25 f3 (slopeL i ++ [slopeV ((i : Int).tmod 3) (IntKind.i64.wrap ((i : Int).tdiv 3))]) = Cont.row 25 f3 (slopeL (i + 1)) := by rw [slopeL_succ]
    have e3 : ((slopeL i).length + 1) * 4 ≤ 140737488355328 ∧ (slopeL i).length + 1 ≤ 140737488355328 := by rw [slopeL_len]; omega
    have e4 : 9 - (i + 1) < 9 - i := by omega
    clear h
    conv => whnf
    refine ⟨by decide, ?_⟩
    conv => whnf
    refine ⟨by decide +kernel, ?_⟩
    conv => whnf
    refine ⟨by decide, ?_⟩
    repeat' (conv => whnf
             first
             | exact trivial
             | exact hn _ _ ⟨i + 1, ⟨[(0, 0), (3, 1), (2, 2)], rfl, rfl, ⟨rfl, rfl, rfl, rfl, rfl, ⟨rfl, rfl⟩, ⟨rfl, rfl⟩, e1, trivial⟩, ⟨⟨rfl, rfl, rfl, rfl, rfl⟩, ⟨rfl, e2⟩, ⟨rfl, rfl, rfl, rfl, rfl⟩, trivial⟩, rfl⟩, hlt, e4⟩
             | refine ⟨e3, ?_⟩
             | refine ⟨?_, ?_⟩)
  · have hge : i = 9 := by
      have h := of_decide_eq_false h
      rw [show IntKind.i64.wrap (3 * 3 : Int) = 9 by decide] at h
      have hi : i ≤ 9 := hi
      omega
    subst hge
    refine hx _ _ _ ?_
    conv => whnf
    exact ⟨rfl, [(1, 0)], rfl, rfl, ⟨⟨rfl, rfl, rfl, rfl⟩, trivial⟩, ⟨⟨rfl, rfl⟩, trivial⟩, rfl⟩
end Go.R

open Go Go.V Go.Proofs
namespace Go.R
set_option maxRecDepth 100000
set_option linter.unusedSimpArgs false

abbrev dam0 : Dam := (0, 0, 0, 0)

/-- Names, from the river that a slot points to. -/
def nmR (s : Nat) (m : List (Nat × Nat)) (E : Env) (H : Heap) : List (Nat × Nat) := match eget E s with
  | .ptrO b _ => match hget H b with
    | some (.box [.own i, .own j, .own k]) => m ++ [(i, 1), (j, 2), (k, 3), (b, 4)]
    | some (.box [_, .own j, .own k]) => m ++ [(j, 2), (k, 3), (b, 4)]
    | _ => []
  | _ => []
theorem weakM (f : Env → Heap → List (Nat × Nat)) {E E' : Env} {H H' : Heap} (h : (ninj (f E H) && nin H' (f E H)) = true) (h2 : WE (f E H) H E E') (h3 : WH (f E H) H H') : Weak [] E H E' H' := by
  rw [Bool.and_eq_true] at h
  exact ⟨f E H, h.1, h.2, h2, h3, rfl⟩

set_option maxHeartbeats 4000000 in
theorem c_l06Line : Con Try.prog 54 [iv 2] (.agg [.own 0, .own 1, .own 2]) [(0, .row 2 i6 [1, -1]), (1, .row 87 damT [dam0, dam0]), (2, .row 2 i6 [0, 0])] := by
  refine SF.con0 tabOK 28 rfl (by decide) rfl rfl rfl ?_
  refine SF.parts tabOK mixed 0 1 ⟨28, [0,2], [], []⟩ (X := Unit) (fun _ => [(0, iv 2), (2, .ptrO 0 0)]) (fun _ => [(0, .box [nilV, nilV, nilV])]) (fun _ => True) (by decide +kernel) ?_ (fun _ _ => ?_)
  · conv => whnf
    exact ⟨(), ⟨[(0, 0)], rfl, rfl, ⟨rfl, ⟨rfl, rfl⟩, trivial⟩, ⟨⟨rfl, rfl, rfl, rfl, rfl⟩, trivial⟩, rfl⟩, trivial⟩
  refine SF.any tabOK mixed (0 + 1) [5] [1, 3] (X := Unit) (fun _ => [(0, iv 2), (2, .ptrO 0 0), (3, .ptrO 4 0)]) (fun _ => [(4, .box [.own 1, .own 2, .own 3]), (3, .row 2 i6 [0, 0]), (2, .row 87 damT [dam0, dam0]), (1, .row 2 i6 []), (0, .box [nilV, nilV, nilV])]) (fun _ => True) (by decide +kernel) ?_ (fun _ _ => ?_)
  · conv => whnf
    repeat' (conv => whnf
             first
             | exact trivial
             | exact ⟨(), weakM (nmR 3 [(0, 0)]) rfl ⟨rfl, ⟨rfl, rfl⟩, ⟨rfl, rfl⟩, trivial⟩ ⟨⟨rfl, rfl, rfl, rfl, rfl⟩, ⟨rfl, rfl⟩, ⟨rfl, rfl⟩, ⟨rfl, rfl⟩, ⟨rfl, rfl, rfl, rfl, rfl⟩, trivial⟩, trivial⟩
             | refine ⟨⟨rfl, by decide, by decide, by decide⟩, ?_⟩
             | refine ⟨?_, ?_⟩)
  refine SF.last tabOK mixed (0 + 1 + 1) ⟨28, [0,2,3,4,13], [], []⟩ ?_
  conv => whnf
  refine ⟨Nat, fun n => [(0, iv 2), (2, .ptrO 0 0), (3, .ptrO 4 0), (4, iv (n + 1 : Nat))], fun n => match n with
    | 0 => [(4, .box [.own 1, .own 2, .own 3]), (3, .row 2 i6 [0, 0]), (2, .row 87 damT [dam0, dam0]), (1, .row 2 i6 []), (0, .box [nilV, nilV, nilV])]
    | _ => [(4, .box [.own 1, .own 2, .own 3]), (3, .row 2 i6 [0, 0]), (2, .row 87 damT [dam0, dam0]), (1, .row 2 i6 [1]), (0, .box [nilV, nilV, nilV])], fun n => n ≤ 1, fun n => 1 - n, 0, ?_, Nat.zero_le _, fun n hn => ?_⟩
  · exact ⟨[(0, 0), (1, 1), (2, 2), (3, 3), (4, 4)], rfl, rfl, ⟨rfl, ⟨rfl, rfl⟩, ⟨rfl, rfl⟩, rfl, trivial⟩, ⟨⟨rfl, rfl, rfl, rfl, rfl⟩, ⟨rfl, rfl⟩, ⟨rfl, rfl⟩, ⟨rfl, rfl⟩, ⟨rfl, rfl, rfl, rfl, rfl⟩, trivial⟩, rfl⟩
  match n, hn with
  | 0, _ =>
    conv => whnf
    refine ⟨fun _ => ?_, fun h => absurd h (by decide)⟩
    conv => whnf
    refine ⟨⟨by decide, by decide⟩, ?_⟩
    conv => whnf
    exact ⟨1, ⟨[(0, 0), (5, 1), (2, 2), (3, 3), (4, 4)], rfl, rfl, ⟨rfl, ⟨rfl, rfl⟩, ⟨rfl, rfl⟩, (vw (by decide) (by decide)), trivial⟩, ⟨⟨rfl, rfl, rfl, rfl, rfl⟩, ⟨rfl, rfl⟩, ⟨rfl, rfl⟩, ⟨rfl, rfl⟩, ⟨rfl, rfl, rfl, rfl, rfl⟩, trivial⟩, rfl⟩, by decide, by decide⟩
  | 1, _ =>
    conv => whnf
    refine ⟨fun h => absurd h (by decide), fun _ => ?_⟩
    conv => whnf
    refine ⟨⟨by decide, by decide⟩, ?_⟩
    conv => whnf
    exact ⟨rfl, [(5, 0), (2, 1), (3, 2)], rfl, rfl, ⟨⟨rfl, rfl, rfl, rfl⟩, trivial⟩, ⟨⟨rfl, rfl⟩, ⟨rfl, rfl⟩, ⟨rfl, rfl⟩, trivial⟩, rfl⟩

set_option maxHeartbeats 4000000 in
theorem c_LineRiver : Con Try.prog 46 [iv 2] (.tup [.agg [.own 0, .own 1, .own 2], bv true]) [(0, .row 2 i6 [1, -1]), (1, .row 87 damT [dam0, dam0]), (2, .row 2 i6 [0, 0])] := by
  refine SF.con0 tabOK 33 rfl (by decide) rfl rfl rfl ?_
  refine SF.parts tabOK mixed 0 2 ⟨33, [0,2,3,8], [], []⟩ (X := Unit) (fun _ => [(0, iv 2), (2, .ptrO 0 0), (3, bv false)]) (fun _ => [(0, .box [nilV, nilV, nilV])]) (fun _ => True) (by decide +kernel) ?_ (fun _ _ => ?_)
  · conv => whnf
    refine .inl ⟨_, _, c_withinB _ _ _, rfl, ?_⟩
    conv => whnf
    refine ⟨fun h => absurd h (by decide), fun _ => ?_⟩
    conv => whnf
    exact ⟨(), ⟨[(0, 0)], rfl, rfl, ⟨rfl, ⟨rfl, rfl⟩, rfl, trivial⟩, ⟨⟨rfl, rfl, rfl, rfl, rfl⟩, trivial⟩, rfl⟩, trivial⟩
  refine SF.any tabOK mixed (0 + 2) [] [0, 2] (X := Unit) (fun _ => [(0, iv 2), (2, .ptrO 0 0), (3, bv false), (4, .ptrO 4 0)]) (fun _ => [(4, .box [nilV, .own 2, .own 3]), (3, .row 2 i6 [0, 0]), (2, .row 87 damT [dam0, dam0]), (0, .box [nilV, nilV, nilV])]) (fun _ => True) (by decide +kernel) ?_ (fun _ _ => ?_)
  · conv => whnf
    repeat' (conv => whnf
             first
             | exact trivial
             | exact ⟨(), weakM (nmR 4 [(0, 0)]) rfl ⟨rfl, ⟨rfl, rfl⟩, rfl, ⟨rfl, rfl⟩, trivial⟩ ⟨⟨rfl, rfl, rfl, rfl, rfl⟩, ⟨rfl, rfl⟩, ⟨rfl, rfl⟩, ⟨rfl, rfl, rfl, rfl, rfl⟩, trivial⟩, trivial⟩
             | refine ⟨⟨rfl, by decide, by decide, by decide⟩, ?_⟩
             | refine ⟨?_, ?_⟩)
  refine SF.last tabOK mixed (0 + 2 + 1) ⟨33, [0,2,3,4,5,15,16,17], [], []⟩ ?_
  conv => whnf
  refine ⟨Nat, fun n => [(0, iv 2), (2, .ptrO 0 0), (3, bv false), (4, .ptrO 4 0), (15, iv 2), (16, iv n)], fun n => match n with
    | 0 => [(4, .box [nilV, .own 2, .own 3]), (3, .row 2 i6 [0, 0]), (2, .row 87 damT [dam0, dam0]), (0, .box [nilV, nilV, nilV])]
    | 1 => [(4, .box [.own 1, .own 2, .own 3]), (3, .row 2 i6 [0, 0]), (2, .row 87 damT [dam0, dam0]), (1, .row 2 i6 [1]), (0, .box [nilV, nilV, nilV])]
    | _ => [(4, .box [.own 1, .own 2, .own 3]), (3, .row 2 i6 [0, 0]), (2, .row 87 damT [dam0, dam0]), (1, .row 2 i6 [1, 2]), (0, .box [nilV, nilV, nilV])], fun n => n ≤ 2, fun n => 2 - n, 0, ?_, Nat.zero_le _, fun n hn => ?_⟩
  · exact ⟨[(0, 0), (2, 2), (3, 3), (4, 4)], rfl, rfl, ⟨rfl, ⟨rfl, rfl⟩, rfl, ⟨rfl, rfl⟩, rfl, rfl, trivial⟩, ⟨⟨rfl, rfl, rfl, rfl, rfl⟩, ⟨rfl, rfl⟩, ⟨rfl, rfl⟩, ⟨rfl, rfl, rfl, rfl, rfl⟩, trivial⟩, rfl⟩
  match n, hn with
  | 0, _ =>
    conv => whnf
    refine ⟨fun _ => ?_, fun h => absurd h (by decide)⟩
    conv => whnf
    refine ⟨⟨by decide, by decide⟩, ?_⟩
    conv => whnf
    exact ⟨1, ⟨[(0, 0), (5, 1), (2, 2), (3, 3), (4, 4)], rfl, rfl, ⟨rfl, ⟨rfl, rfl⟩, rfl, ⟨rfl, rfl⟩, rfl, (vw (by decide) (by decide)), trivial⟩, ⟨⟨rfl, rfl, rfl, rfl, rfl⟩, ⟨rfl, rfl⟩, ⟨rfl, rfl⟩, ⟨rfl, rfl⟩, ⟨rfl, rfl, rfl, rfl, rfl⟩, trivial⟩, rfl⟩, by decide, by decide⟩
  | 1, _ =>
    conv => whnf
    refine ⟨fun _ => ?_, fun h => absurd h (by decide)⟩
    conv => whnf
    refine ⟨⟨by decide, by decide⟩, ?_⟩
    conv => whnf
    exact ⟨2, ⟨[(0, 0), (5, 1), (2, 2), (3, 3), (4, 4)], rfl, rfl, ⟨rfl, ⟨rfl, rfl⟩, rfl, ⟨rfl, rfl⟩, rfl, (vw (by decide) (by decide)), trivial⟩, ⟨⟨rfl, rfl, rfl, rfl, rfl⟩, ⟨rfl, rfl⟩, ⟨rfl, rfl⟩, ⟨rfl, rfl⟩, ⟨rfl, rfl, rfl, rfl, rfl⟩, trivial⟩, rfl⟩, by decide, by decide⟩
  | 2, _ =>
    conv => whnf
    refine ⟨fun h => absurd h (by decide), fun _ => ?_⟩
    conv => whnf
    refine ⟨⟨by decide, by decide⟩, ?_⟩
    conv => whnf
    refine ⟨(2 : Int), rfl, ?_⟩
    conv => whnf
    exact ⟨rfl, [(1, 0), (2, 1), (3, 2)], rfl, rfl, ⟨⟨⟨rfl, rfl, rfl, rfl⟩, rfl, rfl⟩, trivial⟩, ⟨⟨rfl, rfl⟩, ⟨rfl, rfl⟩, ⟨rfl, rfl⟩, trivial⟩, rfl⟩
end Go.R
