/- The law of the flow at a share. -/
import Derived.Test.YthdbngkbjhpnfaaAd
set_option linter.unusedVariables false
set_option linter.unusedSimpArgs false
set_option linter.unnecessarySimpa false
open Go Go.V Go.Proofs
namespace Go.R
set_option maxRecDepth 100000

def gaugeB (l : List Nat) : Bool := decide (1 ≤ l.length) && decide (l.length ≤ 128) && l.all massF
def shareB (x : Nat) : Bool := (fgt .f32 x 0 || feq .f32 x 0) && (flt .f32 x 1065353216 || feq .f32 x 1065353216)
def keyF (l : List Nat) (x : Int) : Int := - kap .f32 (vl l x)

theorem keyF_ok {l : List Nat} (h : l.all massF = true) : KeyedG l (keyF l) := ⟨fun x y hx hy => by
  rw [List.all_eq_true] at h
  have nn : ∀ x, inL l x → isNan .f32 (vl l x) = false := fun x hx => by
    have hm : vl l x ∈ l := by
      have h2 := hx.2
      have : vl l x = l[x.toNat] := by simp [vl, h2]
      rw [this]; exact List.getElem_mem h2
    have := h _ hm
    unfold massF at this
    rw [Bool.and_eq_true] at this
    exact num_of_fin this.1
  rw [fgt_kap (nn x hx) (nn y hy), decide_eq_true_eq]
  unfold keyF
  omega⟩

theorem c_l01Finite (x : Nat) : Con Try.prog 30 [.flt .f32 x] (.val (.bool (finF (fcvt .f32 .f64 x)))) [] := by
  refine con_of tabOK mixed ⟨7, [0,1,2,3,4,5,6], [], []⟩ rfl (by decide) rfl rfl rfl rfl ?_
  conv => whnf
  exact out0 rfl (show _ = _ by rw [← fin_eq])

theorem c_l02Least (x : Nat) : Con Try.prog 23 [.flt .f32 x] (.val (.bool (massF x))) [] := by
  refine con_of tabOK mixed ⟨9, [0,1,2,3,4,5,6,7,8], [], []⟩ rfl (by decide) rfl rfl rfl rfl ?_
  conv => whnf
  refine .inl ⟨_, _, c_l01Finite _, rfl, ?_⟩
  conv => whnf
  refine ⟨fun h => ?_, fun h => ?_⟩
  · conv => whnf
    exact out0 rfl (show _ = _ by rw [massF, h, Bool.true_and])
  · conv => whnf
    exact out0 rfl (show _ = _ by rw [massF, h, Bool.false_and])

theorem c_l02Share (x : Nat) : Con Try.prog 18 [.flt .f32 x] (.val (.bool (shareB x))) [] := by
  refine con_of tabOK mixed ⟨9, [0,1,2,3,4,5,6,7,8], [], []⟩ rfl (by decide) rfl rfl rfl rfl ?_
  conv => whnf
  refine ⟨fun h => ?_, fun h => ?_⟩
  · conv => whnf
    exact out0 rfl (show _ = _ by rw [shareB, h, Bool.true_and])
  · conv => whnf
    exact out0 rfl (show _ = _ by rw [shareB, h, Bool.false_and])

theorem c_l07Gauge (l : List Nat) (hl : l.length ≤ 1048576) : Con Try.prog 17 [.sl false (.flt .f32) l] (.val (.bool (gaugeB l))) [] := by
  refine con_of tabOK mixed ⟨28, [0,2,3,4,13,21], [], []⟩ rfl (by decide) rfl rfl rfl rfl ?_
  conv => whnf
  refine vloop (X := Nat) (fun i => [(0, .sl false (.flt .f32) l), (3, .val (.int .i64 l.length)), (4, .val (.int .i64 i))]) (fun _ => []) (fun i => i ≤ l.length ∧ (0 < i → l.length ≤ 128) ∧ (l.take i).all massF = true) (fun i => l.length - i) 0 ?_ ?_ ?_
  · exact weak0 ⟨⟨trivial, rfl⟩, rfl, rfl, trivial⟩
  · exact ⟨Nat.zero_le _, by omega, rfl⟩
  intro i ⟨h1, h2, h3⟩ Q' hn hx hr
  have done : ∀ H : l.length ≤ i ∨ 128 < l.length, (decide ((1 : Int) ≤ (l.length : Int)) && decide ((l.length : Int) ≤ 128)) = gaugeB l := fun H => by
    have e1 : (decide ((1 : Int) ≤ (l.length : Int)) && decide ((l.length : Int) ≤ 128)) = (decide (1 ≤ l.length) && decide (l.length ≤ 128)) := by
      congr 1 <;> (apply decide_eq_decide.2; omega)
    rw [e1]
    unfold gaugeB
    rcases H with H | H
    · rw [List.take_of_length_le H] at h3
      rw [h3, Bool.and_true]
    · rw [decide_eq_false (show ¬ l.length ≤ 128 by omega)]; simp
  conv => whnf
  refine ⟨fun h => ?_, fun h => ?_⟩
  · have hlt : i < l.length := lt_of_dec h
    conv => whnf
    refine ⟨fun h => ?_, fun h => ?_⟩
    · have h128 : l.length ≤ 128 := by have := of_decide_eq_true h; omega
      conv => whnf
      refine idx hlt ?_
      conv => whnf
      refine .inl ⟨_, _, c_l02Least _, rfl, ?_⟩
      conv => whnf
      refine ⟨fun h => ?_, fun h => ?_⟩
      · refine hr _ _ ?_
        conv => whnf
        refine out0 rfl (show _ = _ from ?_)
        have hm : massF l[i] = false := by simpa using h
        have : l.all massF = false := by
          rw [List.all_eq_false]
          exact ⟨_, List.getElem_mem hlt, by rw [hm]; exact Bool.false_ne_true⟩
        rw [gaugeB, this, Bool.and_false]
      · refine hn _ _ ?_
        refine ⟨i + 1, weak0 ⟨⟨trivial, rfl⟩, rfl, ?_, trivial⟩, ⟨hlt, fun _ => h128, ?_⟩, by omega⟩
        · exact vw (by omega) (by omega)
        · rw [List.take_succ_eq_append_getElem hlt, List.all_append, h3]
          have hm : massF l[i] = true := by simpa using h
          simp [hm]
    · have h128 : 128 < l.length := by have := of_decide_eq_false h; omega
      refine hx _ _ _ ?_
      conv => whnf
      refine ⟨fun h5 => ?_, fun h5 => ?_⟩
      · conv => whnf
        refine out0 rfl (show _ = _ from ?_)
        rw [← done (.inr h128), h5, Bool.true_and]
      · conv => whnf
        refine out0 rfl (show _ = _ from ?_)
        rw [← done (.inr h128), h5, Bool.false_and]
  · have hlt : l.length ≤ i := ge_of_dec h
    refine hx _ _ _ ?_
    conv => whnf
    refine ⟨fun h5 => ?_, fun h5 => ?_⟩
    · conv => whnf
      refine out0 rfl (show _ = _ from ?_)
      rw [← done (.inl hlt), h5, Bool.true_and]
    · conv => whnf
      refine out0 rfl (show _ = _ from ?_)
      rw [← done (.inl hlt), h5, Bool.false_and]

/-- The flow at a share. -/
def kOf (l : List Nat) (x : Nat) : Nat := ((f2i .f64 (fint .down (fcvt .f32 .f64 (fmul .f32 x (fofInt .f32 (IntKind.i64.wrap ((l.length : Int) - 1)))))) .i64).getD 0).toNat
def fas (l : List Nat) (x : Nat) : Nat × Bool :=
  if (gaugeB l && shareB x) = true then (vl l ((srt (keyF l) (rng l.length)).getD (kOf l x) 0), true) else (0, false)

theorem kOf_ok {l : List Nat} {x : Nat} (h1 : gaugeB l = true) (h2 : shareB x = true) :
    f2i .f64 (fint .down (fcvt .f32 .f64 (fmul .f32 x (fofInt .f32 (IntKind.i64.wrap ((l.length : Int) - 1)))))) .i64 = some ((kOf l x : Nat) : Int) ∧ kOf l x < l.length := by
  unfold gaugeB at h1
  simp only [Bool.and_eq_true, decide_eq_true_eq] at h1
  unfold shareB at h2
  rw [Bool.and_eq_true] at h2
  have e1 : IntKind.i64.wrap ((l.length : Int) - 1) = ((l.length - 1 : Nat) : Int) := wrap_nat' (by omega) (by omega)
  obtain ⟨n, hn, hle⟩ := share_idx h2.1 h2.2 (m := l.length - 1) (by omega)
  unfold kOf
  rw [e1, hn]
  exact ⟨rfl, by simp; omega⟩

theorem ord_in (l : List Nat) {n : Nat} (hn : n < l.length) : inL l ((srt (keyF l) (rng l.length)).getD n 0) ∧
    (srt (keyF l) (rng l.length))[((n : Nat) : Int).toNat]? = some ((srt (keyF l) (rng l.length)).getD n 0) ∧ ((srt (keyF l) (rng l.length)).length : Int) = l.length := by
  have hlen : (srt (keyF l) (rng l.length)).length = l.length := by rw [srt_len, rng_len]
  have hn' : n < (srt (keyF l) (rng l.length)).length := by omega
  refine ⟨?_, getZ hn', by rw [hlen]⟩
  have h1 : (srt (keyF l) (rng l.length)).getD n 0 ∈ srt (keyF l) (rng l.length) := by
    have : (srt (keyF l) (rng l.length)).getD n 0 = (srt (keyF l) (rng l.length))[n] := by simp [hn']
    rw [this]; exact List.getElem_mem hn'
  rw [(srt_perm _).mem_iff] at h1
  exact rng_mem h1

theorem c_specFlow (l : List Nat) (x : Nat) (hl : l.length ≤ 1048576) : Con Try.prog 5 [.sl false (.flt .f32) l, .flt .f32 x] (.tup [.flt .f32 (fas l x).1, .val (.bool (fas l x).2)]) [] := by
  refine con_of tabOK mixed ⟨32, [0,1,4,5,6,14], [], []⟩ rfl (by decide) rfl rfl rfl rfl ?_
  conv => whnf
  refine .inl ⟨_, _, c_l07Gauge l hl, rfl, ?_⟩
  conv => whnf
  refine ⟨fun h => ?_, fun h => ?_⟩
  · have hg : gaugeB l = false := by simpa using h
    conv => whnf
    exact out0 rfl ⟨by rw [fas, hg]; rfl, by rw [fas, hg]; rfl, rfl⟩
  have hg : gaugeB l = true := by simpa using h
  conv => whnf
  refine .inl ⟨_, _, c_l02Share x, rfl, ?_⟩
  conv => whnf
  refine ⟨fun h => ?_, fun h => ?_⟩
  · have hs : shareB x = false := by simpa using h
    conv => whnf
    exact out0 rfl ⟨by rw [fas, hg, hs]; rfl, by rw [fas, hg, hs]; rfl, rfl⟩
  have hs : shareB x = true := by simpa using h
  obtain ⟨k1, k2⟩ := kOf_ok hg hs
  obtain ⟨o1, o2, o3⟩ := ord_in l k2
  have hm : l.all massF = true := by unfold gaugeB at hg; rw [Bool.and_eq_true] at hg; exact hg.2
  conv => whnf
  refine .inl ⟨_, _, c_Floor _, rfl, ?_⟩
  conv => whnf
  refine ⟨_, k1, ?_⟩
  conv => whnf
  refine .inl ⟨_, _, c_l07Order l (keyF l) (keyF_ok hm) hl, rfl, ?_⟩
  conv => whnf
  refine ⟨⟨by omega, by omega⟩, ?_⟩
  conv => whnf
  refine ⟨_, o2, ?_⟩
  conv => whnf
  refine idxZ o1 ?_
  conv => whnf
  exact out0 rfl ⟨by rw [fas, hg, hs]; rfl, by rw [fas, hg, hs]; rfl, rfl⟩

theorem c_implFlow (l : List Nat) (x : Nat) (hl : l.length ≤ 1048576) : Con Try.prog 7 [.sl false (.flt .f32) l, .flt .f32 x] (.tup [.flt .f32 (fas l x).1, .val (.bool (fas l x).2)]) [] := by
  refine con_of tabOK mixed ⟨36, [0,1,4,5,6,18], [], []⟩ rfl (by decide) rfl rfl rfl rfl ?_
  conv => whnf
  refine .inl ⟨_, _, c_IsGauge l (len_leN hl), rfl, ?_⟩
  conv => whnf
  refine ⟨fun h => ?_, fun h => ?_⟩
  · have hg : gaugeB l = false := nt h
    conv => whnf
    exact out0 rfl ⟨by rw [fas, hg]; rfl, by rw [fas, hg]; rfl, rfl⟩
  have hg : gaugeB l = true := nf h
  conv => whnf
  have fin : shareB x = true → Con Try.prog 22 [.sl false (.flt .f32) l] (.own 0) [(0, .row 2 (.int .i64) (srt (keyF l) (rng l.length)))] := fun _ => c_ranked l (keyF l) (keyF_ok (by unfold gaugeB at hg; rw [Bool.and_eq_true] at hg; exact hg.2)).k hl
  refine ⟨fun h1 => ?_, fun h1 => ?_⟩
  · conv => whnf
    refine ⟨fun h => ?_, fun h => ?_⟩
    · have hs : shareB x = false := by rw [shareB, h1, Bool.true_and]; first | exact nt h | exact nf h
      conv => whnf
      exact out0 rfl ⟨by rw [fas, hg, hs]; rfl, by rw [fas, hg, hs]; rfl, rfl⟩
    have hs : shareB x = true := by rw [shareB, h1, Bool.true_and]; first | exact nt h | exact nf h
    obtain ⟨k1, k2⟩ := kOf_ok hg hs
    obtain ⟨o1, o2, o3⟩ := ord_in l k2
    conv => whnf
    refine .inl ⟨_, _, c_Floor _, rfl, ?_⟩
    conv => whnf
    refine ⟨_, k1, ?_⟩
    conv => whnf
    refine .inl ⟨_, _, fin hs, rfl, ?_⟩
    conv => whnf
    refine ⟨⟨by omega, by omega⟩, ?_⟩
    conv => whnf
    refine ⟨_, o2, ?_⟩
    conv => whnf
    refine idxZ o1 ?_
    conv => whnf
    exact out0 rfl ⟨by rw [fas, hg, hs]; rfl, by rw [fas, hg, hs]; rfl, rfl⟩
  · have hs : shareB x = false := by rw [shareB, h1, Bool.false_and]
    conv => whnf
    exact out0 rfl ⟨by rw [fas, hg, hs]; rfl, by rw [fas, hg, hs]; rfl, rfl⟩
end Go.R

open Go Go.V Go.Proofs
namespace Go.R
set_option maxRecDepth 100000

theorem sameF_self (a : Nat) : sameF a a = true := by
  unfold sameF
  cases h : feq .f64 a a
  · simp
  · cases h0 : feq .f64 a 0 <;> simp
theorem eqF_self : ∀ l : List Nat, eqF l l = true
  | [] => rfl
  | x :: l => by rw [eqF, sameF_self, eqF_self l]; rfl

theorem c_FnExactFlowAtShare (l : List Nat) (x : Nat) (hl : l.length ≤ maxLen) : Con Try.prog 3 [.sl false (.flt .f32) l, .flt .f32 x] (.val (.bool true)) [] := by
  refine con_of tabOK mixed ⟨44, [0,1,4,5,6,7,8,9,12,13,22,38,43], [], []⟩ rfl (by decide) rfl rfl rfl rfl ?_
  conv => whnf
  refine ⟨fun h => ?_, fun h => ?_⟩
  · conv => whnf
    exact out0 rfl rfl
  have hl' := hl
  have hl : l.length ≤ 1048576 := by have := of_decide_eq_false h; omega
  conv => whnf
  refine .inl ⟨_, _, c_toFloat32S l (by omega), rfl, ?_⟩
  conv => whnf
  refine .inl ⟨_, _, c_specFlow l x hl, rfl, ?_⟩
  conv => whnf
  refine .inl ⟨.own 1, [(1, .row 23 (.flt .f32) l)], (c_toFloat32S l (by omega)).less [(0, 1)] rfl rfl rfl ⟨⟨rfl, rfl⟩, trivial⟩ rfl, rfl, ?_⟩
  conv => whnf
  refine .inl ⟨_, _, c_implFlow l x hl, rfl, ?_⟩
  conv => whnf
  refine .inl ⟨_, _, c_sameFloat _ _, rfl, ?_⟩
  rw [sameF_self]
  conv => whnf
  refine ⟨fun h => (by cases h), fun _ => ?_⟩
  conv => whnf
  refine ⟨fun h => ?_, fun _ => ?_⟩
  · have : (!((fas l x).2 == (fas l x).2)) = true := h
    simp at this
  conv => whnf
  refine .inl ⟨.own 2, [(2, .row 23 (.flt .f32) l)], (c_toFloat32S l (by omega)).less [(0, 2)] rfl rfl rfl ⟨⟨rfl, rfl⟩, trivial⟩ rfl, rfl, ?_⟩
  conv => whnf
  refine .inl ⟨_, _, c_eqFloat32S l l hl', rfl, ?_⟩
  rw [eqF_self]
  conv => whnf
  refine ⟨fun h => (by cases h), fun _ => ?_⟩
  conv => whnf
  exact out0 rfl rfl
end Go.R
