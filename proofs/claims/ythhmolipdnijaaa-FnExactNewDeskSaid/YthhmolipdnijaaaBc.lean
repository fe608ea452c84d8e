/- Desks as what is handed in. -/
import Derived.Test.YthhmolipdnijaaaBb
import Derived.Test.YthhmolipdnijaaaVg
set_option linter.unusedVariables false
set_option linter.unusedSimpArgs false
set_option linter.unnecessarySimpa false
open Go Go.V Go.Proofs
namespace Go.R
set_option maxRecDepth 100000

/-- What a desk's lists are at most. -/
structure Lists (d : Desk) : Prop where
  hill : d.1.2.2.length ≤ maxLen
  downs : d.2.2.2.1.length ≤ maxLen
  dams : d.2.2.2.2.1.length ≤ maxLen
  wants : d.2.2.2.2.2.length ≤ maxLen

theorem small_of {d : Desk} (hd : Lists d) {left : Nat} (hl : left ≤ 1048576) (h : ¬ szs ([d.1.2.2.length] ++ [d.2.2.2.1.length, d.2.2.2.2.1.length, d.2.2.2.2.2.length]) left < 0) :
    Small d ∧ ∃ m : Nat, szs ([d.1.2.2.length] ++ [d.2.2.2.1.length, d.2.2.2.2.1.length, d.2.2.2.2.2.length]) left = (m : Int) ∧ m ≤ 1048576 := by
  obtain ⟨h1, m, h2, h3⟩ := szs_ok (fun n hn => by
    simp only [List.cons_append, List.nil_append, List.mem_cons, List.not_mem_nil, or_false] at hn
    rcases hn with rfl | rfl | rfl | rfl
    · exact hd.hill
    · exact hd.downs
    · exact hd.dams
    · exact hd.wants) hl h
  refine ⟨⟨?_, ?_, ?_, ?_⟩, m, h2, by omega⟩
  · have := h1 _ (show d.1.2.2.length ∈ _ by simp); omega
  · have := h1 _ (show d.2.2.2.1.length ∈ _ by simp); omega
  · have := h1 _ (show d.2.2.2.2.1.length ∈ _ by simp); omega
  · have := h1 _ (show d.2.2.2.2.2.length ∈ _ by simp); omega

theorem c_FnExactSameDesk (a b : Desk) (la : Lists a) (lb : Lists b) (oa : OkDesk a) (ob : OkDesk b) : Con Try.prog 4 [.agg (deskC a), .agg (deskC b)] (bv true) [] := by
  refine con_of tabOK mixed ⟨45, [0,1,2,3,4,5,6,7,8,9,10,11,12,13,14,15,16,17,18,19,20,21,22,23,24,25,26,27,28,29,30,31,32,33,34,35,36,37,38,39,40,41,42,43,44], [], []⟩ rfl (by decide) rfl rfl rfl rfl ?_
  conv => whnf
  refine .inl ⟨_, _, c_szDesk a _, rfl, ?_⟩
  conv => whnf
  refine ⟨fun _ => ?_, fun h => ?_⟩
  · conv => whnf
    exact out0 rfl rfl
  obtain ⟨sa, m, hm, hm2⟩ := small_of la (left := 1048576) (Nat.le_refl _) (of_decide_eq_false h)
  conv => whnf
  refine .inl ⟨_, _, c_szDesk b _, rfl, ?_⟩
  conv => whnf
  refine ⟨fun _ => ?_, fun h => ?_⟩
  · conv => whnf
    exact out0 rfl rfl
  obtain ⟨sb, _⟩ := small_of lb hm2 (by
    have := of_decide_eq_false h
    rw [← hm]
    exact this)
  conv => whnf
  refine ⟨by decide +kernel, ?_⟩
  conv => whnf
  refine ⟨_, c_toDeskF a sa, ?_⟩
  conv => whnf
  refine ⟨_, c_toDeskF b sb, ?_⟩
  conv => whnf
  refine ⟨_, c_specSame a b sa oa ob, ?_⟩
  conv => whnf
  refine .inl ⟨_, _, c_toDeskF a sa, rfl, ?_⟩
  conv => whnf
  refine .inl ⟨_, _, c_toDeskF b sb, rfl, ?_⟩
  conv => whnf
  refine .inl ⟨_, _, c_implSame a b sa oa ob, rfl, ?_⟩
  conv => whnf
  refine ⟨fun h => ?_, fun _ => ?_⟩
  · have : (!(deskS a b == deskS a b)) = true := h
    simp at this
  conv => whnf
  refine ⟨by decide +kernel, ?_⟩
  conv => whnf
  refine ⟨_, c_toDeskF a sa, ?_⟩
  conv => whnf
  refine ⟨_, c_eqDesk a la.hill la.downs la.dams la.wants, ?_⟩
  conv => whnf
  refine ⟨fun h => (by cases h), fun _ => ?_⟩
  conv => whnf
  refine ⟨by decide +kernel, ?_⟩
  conv => whnf
  refine ⟨_, c_toDeskF b sb, ?_⟩
  conv => whnf
  refine ⟨_, c_eqDesk b lb.hill lb.downs lb.dams lb.wants, ?_⟩
  conv => whnf
  refine ⟨fun h => (by cases h), fun _ => ?_⟩
  conv => whnf
  exact out0 rfl rfl
end Go.R

open Go Go.V Go.Proofs
namespace Go.R
abbrev hillT : STy := .pair i6 (.pair i6 (.sl f3))
abbrev soilT : STy := .pair f3 (.pair f3 (.pair f3 (.pair f3 f3)))
abbrev sectT : STy := .pair f3 (.pair f3 (.pair f3 f3))
abbrev riverT : STy := .pair (.sl i6) (.pair (.sl damT) (.sl i6))
abbrev deskT : STy := .pair hillT (.pair soilT (.pair sectT riverT))
theorem lists_of {d : Desk} (h : Wf deskT d) : Lists d := ⟨h.1.2.2.1, h.2.2.2.1.1, h.2.2.2.2.1.1, h.2.2.2.2.2.1⟩
theorem ok_of {d : Desk} (h : Wf deskT d) : OkDesk d :=
  ⟨h.1.2.2.2, h.2.1.1, h.2.1.2.1, h.2.1.2.2.1, h.2.1.2.2.2.1, h.2.1.2.2.2.2, h.2.2.1.1, h.2.2.1.2.1, h.2.2.1.2.2.1, h.2.2.1.2.2.2⟩
end Go.R
