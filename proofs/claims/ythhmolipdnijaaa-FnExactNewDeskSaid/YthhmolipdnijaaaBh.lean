/- New desks. -/
import Derived.Test.YthhmolipdnijaaaBg
set_option linter.unusedVariables false
set_option linter.unusedSimpArgs false
set_option linter.unnecessarySimpa false
open Go Go.V Go.Proofs
namespace Go.R
set_option maxRecDepth 100000
set_option linter.unusedSimpArgs false

def newD : Desk := ((3, 3, slopeL 9), (1065353216, 0, 1082130432, 1048576000, 0), (1073741824, 0, 981467136, 1023410176), ([1, -1], [dam0, dam0], [0, 0]))
abbrev newA (a b c d : Nat) : AV := .agg [iv 3, iv 3, .own a, fv 1065353216, fv 0, fv 1082130432, fv 1048576000, fv 0, fv 1073741824, fv 0, fv 981467136, fv 1023410176, .own b, .own c, .own d]
abbrev newH (a b c d : Nat) : Heap := [(a, .row 25 f3 (slopeL 9)), (b, .row 2 i6 [1, -1]), (c, .row 87 damT [dam0, dam0]), (d, .row 2 i6 [0, 0])]

set_option maxHeartbeats 8000000 in
theorem c_specNew : Con Try.prog 9 [] (newA 0 1 2 3) (newH 0 1 2 3) := by
  refine con_of tabOK mixed ⟨11, [0,1,2,3,4,5,6,7,8,9,10], [], []⟩ rfl (by decide) rfl rfl rfl rfl ?_
  conv => whnf
  refine .inl ⟨.agg [iv 3, iv 3, .own 1], [(1, .row 25 f3 (slopeL 9))], c_l02Slope.less [(0, 1)] rfl rfl ⟨rfl, rfl, rfl, rfl⟩ ⟨⟨rfl, rfl⟩, trivial⟩ rfl, rfl, ?_⟩
  conv => whnf
  refine .inl ⟨.agg [.own 3, .own 4, .own 5], [(3, .row 2 i6 [1, -1]), (4, .row 87 damT [dam0, dam0]), (5, .row 2 i6 [0, 0])], c_l06Line.less [(0, 3), (1, 4), (2, 5)] rfl rfl ⟨rfl, rfl, rfl, rfl⟩ ⟨⟨rfl, rfl⟩, ⟨rfl, rfl⟩, ⟨rfl, rfl⟩, trivial⟩ rfl, rfl, ?_⟩
  conv => whnf
  exact ⟨rfl, [(1, 0), (3, 1), (4, 2), (5, 3)], rfl, rfl, ⟨⟨rfl, rfl, rfl, rfl, rfl, rfl, rfl, rfl, rfl, rfl, rfl, rfl, rfl, rfl, rfl, rfl⟩, trivial⟩, ⟨⟨rfl, rfl⟩, ⟨rfl, rfl⟩, ⟨rfl, rfl⟩, ⟨rfl, rfl⟩, trivial⟩, rfl⟩

set_option maxHeartbeats 8000000 in
theorem c_implNew : Con Try.prog 10 [] (newA 0 1 2 3) (newH 0 1 2 3) := by
  refine con_of tabOK mixed ⟨18, [0,1,2,3,4,5,6,7,8,9,10,11,12,13,14,15,16,17], [], []⟩ rfl (by decide) rfl rfl rfl rfl ?_
  conv => whnf
  refine .inl ⟨.tup [.agg [iv 3, iv 3, .own 1], bv true], [(1, .row 25 f3 (slopeL 9))], c_SlopeHill.less [(0, 1)] rfl rfl ⟨⟨rfl, rfl, rfl, rfl⟩, rfl, rfl⟩ ⟨⟨rfl, rfl⟩, trivial⟩ rfl, rfl, ?_⟩
  conv => whnf
  refine .inl ⟨.tup [.agg [.own 3, .own 4, .own 5], bv true], [(3, .row 2 i6 [1, -1]), (4, .row 87 damT [dam0, dam0]), (5, .row 2 i6 [0, 0])], c_LineRiver.less [(0, 3), (1, 4), (2, 5)] rfl rfl ⟨⟨rfl, rfl, rfl, rfl⟩, rfl, rfl⟩ ⟨⟨rfl, rfl⟩, ⟨rfl, rfl⟩, ⟨rfl, rfl⟩, trivial⟩ rfl, rfl, ?_⟩
  conv => whnf
  exact ⟨rfl, [(1, 0), (3, 1), (4, 2), (5, 3)], rfl, rfl, ⟨⟨rfl, rfl, rfl, rfl, rfl, rfl, rfl, rfl, rfl, rfl, rfl, rfl, rfl, rfl, rfl, rfl⟩, trivial⟩, ⟨⟨rfl, rfl⟩, ⟨rfl, rfl⟩, ⟨rfl, rfl⟩, ⟨rfl, rfl⟩, trivial⟩, rfl⟩
end Go.R
