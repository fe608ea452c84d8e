/- The ranked years: the program's and the reference's. -/
import Derived.Test.YthdbngkbjhpnfaaAe
set_option linter.unusedVariables false
set_option linter.unusedSimpArgs false
set_option linter.unnecessarySimpa false
open Go Go.V Go.Proofs
namespace Go.R
set_option maxRecDepth 100000

def yr (n k : Nat) : Nat := fdiv .f32 (fofInt .f32 (IntKind.i64.wrap ((n : Int) + 1))) (fofInt .f32 (IntKind.i64.wrap ((k : Int) + 1)))
def ryO (l : List Nat) : List Int := if gaugeB l = true then srt (keyF l) (rng l.length) else []
def ryY (l : List Nat) : List Nat := if gaugeB l = true then (List.range l.length).map (yr l.length) else []
theorem ryO_no {l : List Nat} (h : gaugeB l = false) : ryO l = [] := by rw [ryO, h]; rfl
theorem ryO_yes {l : List Nat} (h : gaugeB l = true) : ryO l = srt (keyF l) (rng l.length) := by rw [ryO, if_pos h]
theorem ryY_yes {l : List Nat} (h : gaugeB l = true) : ryY l = (List.range l.length).map (yr l.length) := by rw [ryY, if_pos h]
theorem ryY_no {l : List Nat} (h : gaugeB l = false) : ryY l = [] := by rw [ryY, h]; rfl
theorem ryO_len (l : List Nat) : (ryO l).length ≤ 128 := by
  unfold ryO
  split
  · rename_i h
    unfold gaugeB at h
    simp only [Bool.and_eq_true, decide_eq_true_eq] at h
    rw [srt_len, rng_len]; omega
  · simp
theorem ryY_len (l : List Nat) : (ryY l).length ≤ 128 := by
  unfold ryY
  split
  · rename_i h
    unfold gaugeB at h
    simp only [Bool.and_eq_true, decide_eq_true_eq] at h
    simp; omega
  · simp

theorem c_specRanked (l : List Nat) (hl : l.length ≤ 1048576) : Con Try.prog 10 [.sl false (.flt .f32) l] (.tup [.own 0, .own 1, .val (.bool (gaugeB l))]) [(0, .row 2 (.int .i64) (ryO l)), (1, .row 23 (.flt .f32) (ryY l))] := by
  cases hg : gaugeB l
  · rw [ryO_no hg, ryY_no hg]
    refine Con.nils (ds := [.val (.slice none 0 0), .val (.slice none 0 0), .val (.bool false)]) ?_ rfl ⟨⟨rfl, rfl⟩, ⟨rfl, rfl⟩, ⟨rfl, rfl⟩, rfl⟩
    refine con_of tabOK mixed ⟨33, [0,2,3,4,5,6,7,10,15,16,17], [], []⟩ rfl (by decide) rfl rfl rfl rfl ?_
    conv => whnf
    refine .inl ⟨_, _, c_l07Gauge l hl, rfl, ?_⟩
    conv => whnf
    refine ⟨fun _ => ?_, fun h => ?_⟩
    · conv => whnf
      exact out0 rfl ⟨rfl, rfl, rfl, rfl⟩
    · have : gaugeB l = true := nf h
      rw [hg] at this; cases this
  · have hm : l.all massF = true := by unfold gaugeB at hg; rw [Bool.and_eq_true] at hg; exact hg.2
    rw [ryO_yes hg, ryY_yes hg]
    refine con_of tabOK mixed ⟨33, [0,2,3,4,5,6,7,10,15,16,17], [13], []⟩ rfl (by decide) rfl rfl rfl rfl ?_
    conv => whnf
    refine .inl ⟨_, _, c_l07Gauge l hl, rfl, ?_⟩
    conv => whnf
    refine ⟨fun h => ?_, fun _ => ?_⟩
    · have : gaugeB l = false := nt h
      rw [hg] at this; cases this
    conv => whnf
    refine .inl ⟨_, _, c_l07Order l (keyF l) (keyF_ok hm) hl, rfl, ?_⟩
    conv => whnf
    have hlen : ((srt (keyF l) (rng l.length)).length : Int) = (l.length : Int) := by rw [srt_len, rng_len]
    refine vloop (X := Nat) (fun k => [(0, .sl false (.flt .f32) l), (5, .own 0), (6, .own 1), (15, .val (.int .i64 l.length)), (16, .val (.int .i64 k))]) (fun k => [(0, .row 2 (.int .i64) (srt (keyF l) (rng l.length))), (1, .row 23 (.flt .f32) ((List.range k).map (yr l.length)))])
      (fun k => k ≤ l.length) (fun k => l.length - k) 0 ?_ (Nat.zero_le _) ?_
    · refine ⟨[(0, 0), (1, 1)], rfl, rfl, ⟨⟨trivial, rfl⟩, rfl, rfl, ?_, rfl, trivial⟩, ⟨⟨rfl, rfl⟩, ⟨rfl, rfl⟩, trivial⟩, rfl⟩
      show Value.int .i64 _ = _
      rw [hlen]
    intro k hk Q' hn hx hr
    conv => whnf
    refine ⟨fun h => ?_, fun h => ?_⟩
    · have hlt : k < l.length := lt_of_dec h
      conv => whnf
      refine ⟨⟨?_, ?_⟩, ?_⟩
      · simp; omega
      · simp; omega
      conv => whnf
      refine hn _ _ ?_
      refine ⟨k + 1, ⟨[(0, 0), (2, 1)], rfl, rfl, ⟨⟨trivial, rfl⟩, rfl, rfl, rfl, ?_, trivial⟩, ⟨⟨rfl, rfl⟩, ⟨rfl, ?_⟩, trivial⟩, rfl⟩, hlt, by omega⟩
      · exact vw (by omega) (by omega)
      · show _ = _
        rw [List.range_succ, List.map_append]; rfl
    · have hlt : k = l.length := Nat.le_antisymm hk (ge_of_dec h)
      subst hlt
      refine hx _ _ _ ?_
      conv => whnf
      exact ⟨rfl, [(0, 0), (1, 1)], rfl, rfl, ⟨⟨rfl, rfl, rfl, rfl⟩, trivial⟩, ⟨⟨rfl, rfl⟩, ⟨rfl, rfl⟩, trivial⟩, rfl⟩

theorem c_implRanked (l : List Nat) (hl : l.length ≤ 1048576) : Con Try.prog 11 [.sl false (.flt .f32) l] (.tup [.own 0, .own 1, .val (.bool (gaugeB l))]) [(0, .row 2 (.int .i64) (ryO l)), (1, .row 23 (.flt .f32) (ryY l))] := by
  cases hg : gaugeB l
  · rw [ryO_no hg, ryY_no hg]
    refine Con.nils (ds := [.val (.slice none 0 0), .val (.slice none 0 0), .val (.bool false)]) ?_ rfl ⟨⟨rfl, rfl⟩, ⟨rfl, rfl⟩, ⟨rfl, rfl⟩, rfl⟩
    refine con_of tabOK mixed ⟨33, [0,2,3,4,5,6,7,10,15,16,17], [], []⟩ rfl (by decide) rfl rfl rfl rfl ?_
    conv => whnf
    refine .inl ⟨_, _, c_IsGauge l (len_leN hl), rfl, ?_⟩
    conv => whnf
    refine ⟨fun _ => ?_, fun h => ?_⟩
    · conv => whnf
      exact out0 rfl ⟨rfl, rfl, rfl, rfl⟩
    · have : gaugeB l = true := nf h
      rw [hg] at this; cases this
  · have hm : l.all massF = true := by unfold gaugeB at hg; rw [Bool.and_eq_true] at hg; exact hg.2
    rw [ryO_yes hg, ryY_yes hg]
    refine con_of tabOK mixed ⟨33, [0,2,3,4,5,6,7,10,15,16,17], [13], []⟩ rfl (by decide) rfl rfl rfl rfl ?_
    conv => whnf
    refine .inl ⟨_, _, c_IsGauge l (len_leN hl), rfl, ?_⟩
    conv => whnf
    refine ⟨fun h => ?_, fun _ => ?_⟩
    · have : gaugeB l = false := nt h
      rw [hg] at this; cases this
    conv => whnf
    refine .inl ⟨_, _, c_ranked l (keyF l) (keyF_ok hm).k hl, rfl, ?_⟩
    conv => whnf
    have hlen : ((srt (keyF l) (rng l.length)).length : Int) = (l.length : Int) := by rw [srt_len, rng_len]
    refine vloop (X := Nat) (fun k => [(0, .sl false (.flt .f32) l), (5, .own 0), (6, .own 1), (15, .val (.int .i64 l.length)), (16, .val (.int .i64 k))]) (fun k => [(0, .row 2 (.int .i64) (srt (keyF l) (rng l.length))), (1, .row 23 (.flt .f32) ((List.range k).map (yr l.length)))])
      (fun k => k ≤ l.length) (fun k => l.length - k) 0 ?_ (Nat.zero_le _) ?_
    · refine ⟨[(0, 0), (1, 1)], rfl, rfl, ⟨⟨trivial, rfl⟩, rfl, rfl, ?_, rfl, trivial⟩, ⟨⟨rfl, rfl⟩, ⟨rfl, rfl⟩, trivial⟩, rfl⟩
      show Value.int .i64 _ = _
      rw [hlen]
    intro k hk Q' hn hx hr
    conv => whnf
    refine ⟨fun h => ?_, fun h => ?_⟩
    · have hlt : k < l.length := lt_of_dec h
      conv => whnf
      refine ⟨⟨?_, ?_⟩, ?_⟩
      · simp; omega
      · simp; omega
      conv => whnf
      refine hn _ _ ?_
      refine ⟨k + 1, ⟨[(0, 0), (2, 1)], rfl, rfl, ⟨⟨trivial, rfl⟩, rfl, rfl, rfl, ?_, trivial⟩, ⟨⟨rfl, rfl⟩, ⟨rfl, ?_⟩, trivial⟩, rfl⟩, hlt, by omega⟩
      · exact vw (by omega) (by omega)
      · show _ = _
        rw [List.range_succ, List.map_append]; rfl
    · have hlt : k = l.length := Nat.le_antisymm hk (ge_of_dec h)
      subst hlt
      refine hx _ _ _ ?_
      conv => whnf
      exact ⟨rfl, [(0, 0), (1, 1)], rfl, rfl, ⟨⟨rfl, rfl, rfl, rfl⟩, trivial⟩, ⟨⟨rfl, rfl⟩, ⟨rfl, rfl⟩, trivial⟩, rfl⟩

theorem afterI_eq : ∀ (n : Nat) (k : Nat), n + k ≤ 4194304 → afterI n (k : Int) = ((k + n : Nat) : Int)
  | 0, k, _ => rfl
  | n + 1, k, h => by
    rw [afterI, wrap_nat' (n := k + 1) (by omega) (by omega), afterI_eq n (k + 1) (by omega)]
    congr 1; omega
theorem heldI_marks : ∀ (n : Nat) (k : Int), heldI (marksI n k) k = afterI n k
  | 0, _ => rfl
  | n + 1, k => by rw [marksI, heldI, if_neg (by simp), heldI_marks n, afterI]
theorem fofInt_self {k : Nat} (h : k < 300) : feq .f32 (fofInt .f32 (k : Int)) (fofInt .f32 (k : Int)) = true := by
  have hd : ((List.range 300).all fun k => feq .f32 (fofInt .f32 (k : Int)) (fofInt .f32 (k : Int))) = true := by decide +kernel
  rw [List.all_eq_true] at hd
  exact hd k (List.mem_range.2 h)
theorem heldF_marks : ∀ (n k : Nat), n + k ≤ 299 → heldF (marksF n (k : Int)) (k : Int) = afterI n (k : Int)
  | 0, _, _ => rfl
  | n + 1, k, h => by
    rw [marksF, heldF, fofInt_self (by omega), if_neg (by simp), wrap_nat' (n := k + 1) (by omega) (by omega), heldF_marks n (k + 1) (by omega), afterI, wrap_nat' (n := k + 1) (by omega) (by omega)]

theorem c_FnExactRankedYears (l : List Nat) (hl : l.length ≤ maxLen) : Con Try.prog 4 [.sl false (.flt .f32) l] (.val (.bool true)) [] := by
  refine con_of tabOK mixed ⟨130, [0,2,3,4,5,6,7,8,9,10,11,12,13,14,15,18,19,28,48,53,75,86,91,94,95,116,121,126,129], [], []⟩ rfl (by decide) rfl rfl rfl rfl ?_
  have ho := ryO_len l
  have hy := ryY_len l
  have hol : (ryO l).length ≤ maxLen := by unfold maxLen; omega
  have hyl : (ryY l).length ≤ maxLen := by unfold maxLen; omega
  have eqo : decide (ryO l = ryO l) = true := by simp
  have eqg : (gaugeB l == gaugeB l) = true := by simp
  conv => whnf
  refine ⟨fun h => ?_, fun h => ?_⟩
  · conv => whnf
    exact out0 rfl rfl
  have hl' := hl
  have hl : l.length ≤ 1048576 := by have := of_decide_eq_false h; omega
  conv => whnf
  refine .inl ⟨_, _, c_toFloat32S l (by omega), rfl, ?_⟩
  conv => whnf
  refine .inl ⟨.tup [.own 1, .own 2, .val (.bool (gaugeB l))], [(1, .row 2 (.int .i64) (ryO l)), (2, .row 23 (.flt .f32) (ryY l))], (c_specRanked l hl).less [(0, 1), (1, 2)] rfl rfl ⟨rfl, rfl, rfl, rfl⟩ ⟨⟨rfl, rfl⟩, ⟨rfl, rfl⟩, trivial⟩ rfl, rfl, ?_⟩
  conv => whnf
  refine .inl ⟨.own 3, [(3, .row 23 (.flt .f32) l)], (c_toFloat32S l (by omega)).less [(0, 3)] rfl rfl rfl ⟨⟨rfl, rfl⟩, trivial⟩ rfl, rfl, ?_⟩
  conv => whnf
  refine .inl ⟨.tup [.own 4, .own 5, .val (.bool (gaugeB l))], [(4, .row 2 (.int .i64) (ryO l)), (5, .row 23 (.flt .f32) (ryY l))], (c_implRanked l hl).less [(0, 4), (1, 5)] rfl rfl ⟨rfl, rfl, rfl, rfl⟩ ⟨⟨rfl, rfl⟩, ⟨rfl, rfl⟩, trivial⟩ rfl, rfl, ?_⟩
  conv => whnf
  refine .inl ⟨_, _, c_eqInt64S (ryO l) (ryO l) hol, rfl, ?_⟩
  rw [eqo]
  conv => whnf
  refine ⟨fun h => (by cases h), fun _ => ?_⟩
  conv => whnf
  refine .inl ⟨_, _, c_eqFloat32S (ryY l) (ryY l) hyl, rfl, ?_⟩
  rw [eqF_self]
  conv => whnf
  refine ⟨fun h => (by cases h), fun _ => ?_⟩
  conv => whnf
  refine ⟨fun h => ?_, fun _ => ?_⟩
  · have : (!(gaugeB l == gaugeB l)) = true := h
    rw [eqg] at this; cases this
  conv => whnf
  refine .inl ⟨.own 6, [(6, .row 23 (.flt .f32) l)], (c_toFloat32S l (by omega)).less [(0, 6)] rfl rfl rfl ⟨⟨rfl, rfl⟩, trivial⟩ rfl, rfl, ?_⟩
  conv => whnf
  refine .inl ⟨_, _, c_eqFloat32S l l hl', rfl, ?_⟩
  rw [eqF_self]
  conv => whnf
  refine ⟨fun h => (by cases h), fun _ => ?_⟩
  conv => whnf
  -- marks
  refine .inr ⟨[(3, 0)], [(0, .row 23 (.flt .f32) l)], .val (.int .i64 (afterI l.length 1)), [(0, .row 23 (.flt .f32) (marksF l.length 1))], [(0, 3)], .val (.int .i64 (afterI l.length 1)), [(3, .row 23 (.flt .f32) (marksF l.length 1))],
    ⟨rfl, rfl, rfl, ⟨⟨rfl, rfl⟩, trivial⟩⟩, c_markFloat32S l 1 hl', ⟨rfl, rfl, rfl, ⟨⟨rfl, rfl⟩, trivial⟩⟩, rfl, rfl, rfl, ?_⟩
  have ea : afterI l.length 1 = ((1 + l.length : Nat) : Int) := afterI_eq l.length 1 (by omega)
  conv => whnf
  refine ⟨fun h => ?_, fun _ => ?_⟩
  · rw [ea] at h; have := of_decide_eq_true h; omega
  conv => whnf
  refine .inl ⟨_, _, c_eqInt64S (ryO l) (ryO l) hol, rfl, ?_⟩
  rw [eqo]
  conv => whnf
  refine ⟨fun h => (by cases h), fun _ => ?_⟩
  conv => whnf
  refine .inl ⟨_, _, c_eqFloat32S (ryY l) (ryY l) hyl, rfl, ?_⟩
  rw [eqF_self]
  conv => whnf
  refine ⟨fun h => (by cases h), fun _ => ?_⟩
  conv => whnf
  refine ⟨fun h => ?_, fun _ => ?_⟩
  · have : (!(gaugeB l == gaugeB l)) = true := h
    rw [eqg] at this; cases this
  conv => whnf
  obtain ⟨a, ha⟩ : ∃ a, a = (ryO l).length := ⟨_, rfl⟩
  obtain ⟨b, hb⟩ : ∃ b, b = (ryY l).length := ⟨_, rfl⟩
  have e1 : afterI a 1 = ((1 + a : Nat) : Int) := afterI_eq a 1 (by omega)
  have e2 : afterI b ((1 + a : Nat) : Int) = ((1 + a + b : Nat) : Int) := afterI_eq b (1 + a) (by omega)
  have m1 := c_markInt64S (ryO l) 1 hol
  have m2 := c_markFloat32S (ryY l) ((1 + a : Nat) : Int) hyl
  rw [← ha, e1] at m1
  rw [← hb, e2] at m2
  have k1 := c_heldInt64S (marksI a 1) 1 (by rw [marksI_len]; unfold maxLen; omega)
  have k2 := c_heldFloat32S (marksF b ((1 + a : Nat) : Int)) ((1 + a : Nat) : Int) (by rw [marksF_len]; unfold maxLen; omega)
  rw [heldI_marks, e1] at k1
  rw [heldF_marks _ _ (by omega), e2] at k2
  refine .inr ⟨[(4, 0)], [(0, .row 2 (.int .i64) (ryO l))], .val (.int .i64 ((1 + a : Nat) : Int)), [(0, .row 2 (.int .i64) (marksI a 1))], [(0, 4)], .val (.int .i64 ((1 + a : Nat) : Int)), [(4, .row 2 (.int .i64) (marksI a 1))],
    ⟨rfl, rfl, rfl, ⟨⟨rfl, rfl⟩, trivial⟩⟩, m1, ⟨rfl, rfl, rfl, ⟨⟨rfl, rfl⟩, trivial⟩⟩, rfl, rfl, rfl, ?_⟩
  conv => whnf
  refine .inr ⟨[(5, 0)], [(0, .row 23 (.flt .f32) (ryY l))], .val (.int .i64 ((1 + a + b : Nat) : Int)), [(0, .row 23 (.flt .f32) (marksF b ((1 + a : Nat) : Int)))], [(0, 5)], .val (.int .i64 ((1 + a + b : Nat) : Int)), [(5, .row 23 (.flt .f32) (marksF b ((1 + a : Nat) : Int)))],
    ⟨rfl, rfl, rfl, ⟨⟨rfl, rfl⟩, trivial⟩⟩, m2, ⟨rfl, rfl, rfl, ⟨⟨rfl, rfl⟩, trivial⟩⟩, rfl, rfl, rfl, ?_⟩
  conv => whnf
  refine .inl ⟨_, _, k1, rfl, ?_⟩
  conv => whnf
  refine ⟨fun h => ?_, fun _ => ?_⟩
  · have := of_decide_eq_true h; omega
  conv => whnf
  refine .inl ⟨_, _, k2, rfl, ?_⟩
  conv => whnf
  refine ⟨fun h => ?_, fun _ => ?_⟩
  · have := of_decide_eq_true h; omega
  conv => whnf
  refine ⟨fun h => ?_, fun _ => ?_⟩
  · exact absurd rfl (of_decide_eq_true h)
  conv => whnf
  -- once more
  refine .inl ⟨.own 7, [(7, .row 23 (.flt .f32) l)], (c_toFloat32S l (by omega)).less [(0, 7)] rfl rfl rfl ⟨⟨rfl, rfl⟩, trivial⟩ rfl, rfl, ?_⟩
  conv => whnf
  refine .inl ⟨.tup [.own 8, .own 9, .val (.bool (gaugeB l))], [(8, .row 2 (.int .i64) (ryO l)), (9, .row 23 (.flt .f32) (ryY l))], (c_implRanked l hl).less [(0, 8), (1, 9)] rfl rfl ⟨rfl, rfl, rfl, rfl⟩ ⟨⟨rfl, rfl⟩, ⟨rfl, rfl⟩, trivial⟩ rfl, rfl, ?_⟩
  conv => whnf
  refine .inl ⟨_, _, c_eqInt64S (ryO l) (ryO l) hol, rfl, ?_⟩
  rw [eqo]
  conv => whnf
  refine ⟨fun h => (by cases h), fun _ => ?_⟩
  conv => whnf
  refine .inl ⟨_, _, c_eqFloat32S (ryY l) (ryY l) hyl, rfl, ?_⟩
  rw [eqF_self]
  conv => whnf
  refine ⟨fun h => (by cases h), fun _ => ?_⟩
  conv => whnf
  refine ⟨fun h => ?_, fun _ => ?_⟩
  · have : (!(gaugeB l == gaugeB l)) = true := h
    rw [eqg] at this; cases this
  conv => whnf
  refine .inl ⟨_, _, k1, rfl, ?_⟩
  conv => whnf
  refine ⟨fun h => ?_, fun _ => ?_⟩
  · have := of_decide_eq_true h; omega
  conv => whnf
  refine .inl ⟨_, _, k2, rfl, ?_⟩
  conv => whnf
  refine ⟨fun h => ?_, fun _ => ?_⟩
  · have := of_decide_eq_true h; omega
  conv => whnf
  refine ⟨fun h => ?_, fun _ => ?_⟩
  · exact absurd rfl (of_decide_eq_true h)
  conv => whnf
  exact out0 rfl rfl
end Go.R
