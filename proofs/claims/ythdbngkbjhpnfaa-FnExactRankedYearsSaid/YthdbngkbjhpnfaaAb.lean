/- Rotation. -/
import Derived.Test.YthdbngkbjhpnfaaAa
set_option linter.unusedVariables false
set_option linter.unusedSimpArgs false
set_option linter.unnecessarySimpa false
open Go Go.V Go.Proofs
namespace Go.R
set_option maxRecDepth 100000

def vl (l : List Nat) (x : Int) : Nat := l.getD x.toNat 0
def inL (l : List Nat) (x : Int) : Prop := 0 ≤ x ∧ x.toNat < l.length
theorem idxZ {l : List Nat} {x : Int} {K : Nat → Prop} (h : inL l x) (hk : K (vl l x)) : ∃ e, (0 ≤ x ∧ l[x.toNat]? = some e) ∧ K e :=
  ⟨vl l x, ⟨h.1, by simp [vl, h.2]⟩, hk⟩
def cmpV (l : List Nat) (x y : Int) : Int := if fgt .f32 (vl l x) (vl l y) then -1 else if flt .f32 (vl l x) (vl l y) then 1 else 0

theorem c_ranked1 (l : List Nat) (x y : Int) (hx : inL l x) (hy : inL l y) :
    Con Try.prog 29 [.val (.int .i64 x), .val (.int .i64 y), .ptrR [.sl false (.flt .f32) l]] (.val (.int .i64 (cmpV l x y))) [] := by
  refine con_of tabOK mixed ⟨26, [0,1,2,3,4,5,6,7,8,9,10,11,12,13,14,15,16,17,18,19,20,21,22,23,24,25], [], []⟩ rfl (by decide) rfl rfl rfl rfl ?_
  conv => whnf
  refine ⟨by decide +kernel, ?_⟩
  conv => whnf
  refine idxZ hx ?_
  conv => whnf
  refine idxZ hy ?_
  conv => whnf
  refine ⟨fun h => ?_, fun h => ?_⟩
  · conv => whnf
    exact out0 rfl (show _ = _ by rw [cmpV, if_pos h])
  · conv => whnf
    refine ⟨by decide +kernel, ?_⟩
    conv => whnf
    refine idxZ hx ?_
    conv => whnf
    refine idxZ hy ?_
    conv => whnf
    refine ⟨fun h' => ?_, fun h' => ?_⟩
    · conv => whnf
      exact out0 rfl (show _ = _ by rw [cmpV, if_neg (by rw [h]; exact Bool.false_ne_true), if_pos h'])
    · conv => whnf
      exact out0 rfl (show _ = _ by rw [cmpV, if_neg (by rw [h]; exact Bool.false_ne_true), if_neg (by rw [h']; exact Bool.false_ne_true)])

/-- The closure, as its callers have it. -/
abbrev cl (l : List Nat) : AV := .fn 29 [.ptrR [.sl false (.flt .f32) l]]

theorem len_leN {l : List Nat} (h : l.length ≤ 1048576) : l.length ≤ maxLen := by unfold maxLen; omega
theorem len_le_max {d : List Int} (h : d.length ≤ 1048576) : d.length ≤ maxLen := by unfold maxLen; omega

/-- data[i], data[j] = data[j], data[i] -/
def swp (d : List Int) (i j : Nat) : List Int := (d.set i (d.getD j 0)).set j (d.getD i 0)
theorem swp_len (d : List Int) (i j : Nat) : (swp d i j).length = d.length := by simp [swp]

/-- Some exchanges one after another. -/
def swpN (d : List Int) (a b : Nat) : Nat → List Int
  | 0 => d
  | n + 1 => swp (swpN d a b n) (a + n) (b + n)
theorem swpN_len (d : List Int) (a b : Nat) : ∀ n, (swpN d a b n).length = d.length
  | 0 => rfl
  | n + 1 => by rw [swpN, swp_len, swpN_len d a b n]

theorem wrap_nat {n : Int} (h0 : 0 ≤ n) (h1 : n ≤ 1048576 * 4) : IntKind.i64.wrap n = n := wrap_id (by omega) (by omega)

theorem idxD {d : List Int} {x : Int} {K : Int → Prop} {n : Nat} (hx : x = (n : Int)) (h : n < d.length) (hk : K (d.getD n 0)) : ∃ e, (0 ≤ x ∧ d[x.toNat]? = some e) ∧ K e := by
  subst hx
  exact ⟨d.getD n 0, ⟨by omega, by simp [h]⟩, hk⟩

theorem getZ {d : List Int} {n : Nat} (h : n < d.length) : d[((n : Nat) : Int).toNat]? = some (d.getD n 0) := by
  rw [Int.toNat_natCast, List.getElem?_eq_getElem h]
  simp [h]

theorem lt_set {d : List Int} {x : Int} {m : Nat} {y : Int} (h : x < (d.length : Int)) : x < ((d.set m y).length : Int) := by rw [List.length_set]; exact h
theorem getZs {d : List Int} {n m : Nat} {y : Int} (h : n < d.length) : (d.set m y)[((n : Nat) : Int).toNat]? = some ((d.set m y).getD n 0) := getZ (by rw [List.length_set]; exact h)

theorem c_swapRange (l : List Nat) (d : List Int) (a b n : Nat) (hd : d.length ≤ 1048576) (ha : a + n ≤ d.length) (hb : b + n ≤ d.length) :
    ConW Try.prog 52 [.own 0, .val (.int .i64 a), .val (.int .i64 b), .val (.int .i64 n), cl l] [(0, .row 2 (.int .i64) d)] (.tup []) [(0, .row 2 (.int .i64) (swpN d a b n))] := by
  refine conW_of tabOK mixed ⟨38, [0,1,2,3,4,10,13], [], [.own 0]⟩ rfl (by decide) rfl rfl rfl rfl rfl ?_
  conv => whnf
  refine ⟨Nat, fun i => [(0, .own 0), (1, .val (.int .i64 a)), (2, .val (.int .i64 b)), (3, .val (.int .i64 n)), (4, cl l), (10, .val (.int .i64 i))], fun i => [(0, .row 2 (.int .i64) (swpN d a b i))], fun i => i ≤ n, fun i => n - i, 0, ?_, Nat.zero_le _, fun i hi => ?_⟩
  · exact ⟨[(0, 0)], rfl, rfl, ⟨rfl, rfl, rfl, rfl, ⟨rfl, ⟨⟨trivial, rfl⟩, rfl⟩, rfl⟩, rfl, trivial⟩, ⟨⟨rfl, rfl⟩, trivial⟩, rfl, rfl⟩
  have hi : i ≤ n := hi
  have hlen := swpN_len d a b i
  conv => whnf
  refine ⟨fun h => ?_, fun h => ?_⟩
  · have hlt : i < n := lt_of_dec h
    conv => whnf
    refine ⟨by decide +kernel, ?_⟩
    have ea : IntKind.i64.wrap ((a : Int) + (i : Int)) = ((a + i : Nat) : Int) := by rw [wrap_nat] <;> omega
    have eb : IntKind.i64.wrap ((b : Int) + (i : Int)) = ((b + i : Nat) : Int) := by rw [wrap_nat] <;> omega
    conv => whnf
    try simp only [ea, eb]
    refine ⟨⟨by omega, by omega⟩, ?_⟩
    conv => whnf
    refine ⟨_, getZ (by omega), ?_⟩
    conv => whnf
    try simp only [ea, eb]
    refine ⟨⟨by omega, by omega⟩, ?_⟩
    conv => whnf
    refine ⟨_, getZ (by omega), ?_⟩
    conv => whnf
    try simp only [ea, eb]
    refine ⟨⟨by omega, by omega⟩, ?_⟩
    conv => whnf
    refine ⟨_, getZ (by omega), ?_⟩
    conv => whnf
    try simp only [ea, eb]
    refine ⟨⟨by omega, lt_set (by omega)⟩, ?_⟩
    conv => whnf
    refine ⟨_, getZs (by omega), ?_⟩
    conv => whnf
    refine ⟨i + 1, ⟨[(0, 0)], rfl, rfl, ⟨rfl, rfl, rfl, rfl, ⟨rfl, ⟨⟨trivial, rfl⟩, rfl⟩, rfl⟩, ?_, trivial⟩, ⟨⟨rfl, ?_⟩, trivial⟩, rfl, rfl⟩, hlt, ?_⟩
    · show _ = _
      rw [wrap_succ hlt (by unfold maxLen; omega)]
    · show _ = _
      rfl
    · show n - (i + 1) < n - i
      omega
  · have hlt : i = n := by have := ge_of_dec h; omega
    conv => whnf
    refine ⟨rfl, [(0, 0)], rfl, rfl, ⟨rfl, trivial⟩, ⟨⟨rfl, ?_⟩, trivial⟩, rfl, rfl⟩
    show _ = _
    rw [hlt]
end Go.R

open Go Go.V Go.Proofs
namespace Go.R
set_option maxRecDepth 100000

/-- What the order of the list's numbers is told by. -/
structure Keyed (l : List Nat) (key : Int → Int) : Prop where
  cmp : ∀ x y, inL l x → inL l y → (cmpV l x y < 0 ↔ key x < key y)

theorem srt_one {key : Int → Int} (x : Int) : srt key [x] = [x] := (srt_uniq (by simp [Srt]) (List.Perm.refl _)).symm

theorem wrap_nat' {n : Nat} {z : Int} (h : z = (n : Int)) (h1 : n ≤ 1048576 * 4) : IntKind.i64.wrap z = (n : Int) := by
  subst h; rw [wrap_nat] <;> omega

theorem c_insertionSort (l : List Nat) (key : Int → Int) (hkey : Keyed l key) (d : List Int) (a b : Nat) (hd : d.length ≤ 1048576) (hab : a ≤ b) (hb : b ≤ d.length)
    (hv : ∀ z ∈ d, inL l z) (hinc : (seg d a b).Pairwise (· < ·)) :
    ConW Try.prog 44 [.own 0, .val (.int .i64 a), .val (.int .i64 b), cl l] [(0, .row 2 (.int .i64) d)] (.tup []) [(0, .row 2 (.int .i64) (d.take a ++ srt key (seg d a b) ++ d.drop b))] := by
  refine conW_of tabOK mixed ⟨53, [0,1,2,3,8,9,14,34], [], [.own 0]⟩ rfl (by decide) rfl rfl rfl rfl rfl ?_
  have e1 : IntKind.i64.wrap ((a : Int) + 1) = ((a + 1 : Nat) : Int) := wrap_nat' (by omega) (by omega)
  conv => whnf
  refine ⟨Nat × List Int, fun p => [(0, .own 0), (1, .val (.int .i64 a)), (2, .val (.int .i64 b)), (3, cl l), (8, .val (.int .i64 p.1))], fun p => [(0, .row 2 (.int .i64) p.2)],
    fun p => a + 1 ≤ p.1 ∧ ((p.1 ≤ b ∧ p.2 = d.take a ++ srt key (seg d a p.1) ++ d.drop p.1) ∨ (b < p.1 ∧ p.1 = a + 1 ∧ p.2 = d)), fun p => b - p.1, (a + 1, d), ?_, ?_, fun p hI => ?_⟩
  · refine ⟨[(0, 0)], rfl, rfl, ⟨rfl, rfl, rfl, ⟨rfl, ⟨⟨trivial, rfl⟩, rfl⟩, rfl⟩, ?_, trivial⟩, ⟨⟨rfl, rfl⟩, trivial⟩, rfl, rfl⟩
    show _ = _
    rw [e1]
  · refine ⟨Nat.le_refl _, ?_⟩
    by_cases h : a + 1 ≤ b
    · refine .inl ⟨h, ?_⟩
      show d = _
      have e2 : seg d a (a + 1) = [d.getD a 0] := by rw [seg_succ (Nat.le_refl _) (by omega)]; simp [seg]
      rw [e2, srt_one, ← e2, cut3 d (by omega)]
    · exact .inr ⟨by omega, rfl, rfl⟩
  obtain ⟨i, L⟩ := p
  obtain ⟨hai, hI⟩ := hI
  simp only at hai hI
  have hLlen : L.length = d.length := by
    rcases hI with ⟨h1, rfl⟩ | ⟨_, _, rfl⟩
    · simp only [List.length_append, srt_len, List.length_take, List.length_drop]
      rw [seg_len (by omega)]; omega
    · rfl
  conv => whnf
  refine ⟨fun h => ?_, fun h => ?_⟩
  · have hib : i < b := lt_of_dec h
    have hL : L = d.take a ++ srt key (seg d a i) ++ d.drop i := by
      rcases hI with ⟨_, h2⟩ | ⟨h1, _⟩
      · exact h2
      · omega
    have hx : d.drop i = d.getD i 0 :: d.drop (i + 1) := by
      rw [List.drop_eq_getElem_cons (by omega)]
      simp [show i < d.length by omega]
    have hxd : d.getD i 0 ∈ d := by
      have hi : i < d.length := by omega
      have : d.getD i 0 = d[i] := by simp [hi]
      rw [this]; exact List.getElem_mem hi
    have hseg : seg d a (i + 1) = seg d a i ++ [d.getD i 0] := seg_succ (by omega) (by omega)
    have hmem : ∀ y ∈ seg d a i, y ∈ d ∧ y < d.getD i 0 := by
      intro y hy
      refine ⟨List.mem_of_mem_drop (List.mem_of_mem_take hy), ?_⟩
      have h1 : (seg d a (i + 1)).Pairwise (· < ·) := by
        have : seg d a (i + 1) = (seg d a b).take (i + 1 - a) := by
          unfold seg; rw [List.take_take]; congr 1; omega
        rw [this]
        exact hinc.sublist (List.take_sublist _ _)
      rw [hseg, List.pairwise_append] at h1
      exact h1.2.2 y hy _ (by simp)
    generalize hxe : d.getD i 0 = x at *
    have hta : (d.take a).length = a := by rw [List.length_take]; omega
    conv => whnf
    refine ⟨List Int × List Int, fun q => [(0, .own 0), (1, .val (.int .i64 a)), (2, .val (.int .i64 b)), (3, cl l), (8, .val (.int .i64 i)), (9, .val (.int .i64 ((a + q.1.length : Nat) : Int)))],
      fun q => [(0, .row 2 (.int .i64) ((d.take a ++ q.1) ++ x :: (q.2 ++ d.drop (i + 1))))],
      fun q => q.1 ++ q.2 = srt key (seg d a i) ∧ ∀ y ∈ q.2, leB key x y = true, fun q => q.1.length, (srt key (seg d a i), []), ?_, ?_, fun q hJ => ?_⟩
    · refine ⟨[(0, 0)], rfl, rfl, ⟨rfl, rfl, rfl, ⟨rfl, ⟨⟨trivial, rfl⟩, rfl⟩, rfl⟩, rfl, ?_, trivial⟩, ⟨⟨rfl, ?_⟩, trivial⟩, rfl, rfl⟩
      · show _ = _
        rw [srt_len, seg_len (by omega), show a + (i - a) = i by omega]
      · show _ = _
        rw [hL, hx]; rfl
    · exact ⟨by simp, by simp⟩
    obtain ⟨S1, S2⟩ := q
    obtain ⟨hS, hS2⟩ := hJ
    simp only at hS hS2
    have hSl : S1.length + S2.length = i - a := by
      have := congrArg List.length hS
      rw [List.length_append, srt_len, seg_len (by omega)] at this
      exact this
    have hSm : ∀ y ∈ S1, y ∈ seg d a i := fun y hy => (srt_perm (key := key) (seg d a i)).mem_iff.1 (by rw [← hS]; simp [hy])
    have hpm : (S1 ++ S2).Perm (seg d a i) := by rw [hS]; exact srt_perm _
    have hPl : (d.take a ++ S1).length = a + S1.length := by rw [List.length_append, hta]
    conv => whnf
    refine ⟨by decide +kernel, ?_⟩
    conv => whnf
    refine ⟨fun h => ?_, fun h => ?_⟩
    · have hj : 0 < S1.length := by
        have h := of_decide_eq_true h
        dsimp only at h
        omega
      rcases List.eq_nil_or_concat S1 with rfl | ⟨S1', y, rfl⟩
      · simp at hj
      rw [List.concat_eq_append] at *
      obtain ⟨A, hA⟩ : ∃ A, A = d.take a ++ S1' := ⟨_, rfl⟩
      obtain ⟨B, hB⟩ : ∃ B, B = S2 ++ d.drop (i + 1) := ⟨_, rfl⟩
      have hp : A.length = a + S1'.length := by rw [hA, List.length_append, hta]
      have hjn : a + (S1' ++ [y]).length = A.length + 1 := by rw [hp, List.length_append]; simp; omega
      have hLe : d.take a ++ (S1' ++ [y]) ++ x :: (S2 ++ d.drop (i + 1)) = A ++ y :: x :: B := by rw [hA, hB]; simp
      have hBl : B.length = S2.length + (d.length - (i + 1)) := by rw [hB, List.length_append, List.length_drop]
      have hSl' : S1'.length + 1 + S2.length = i - a := by rw [List.length_append] at hSl; simpa using hSl
      have hAl : A.length ≤ 1048576 := by omega
      have hlen' : ((A ++ y :: x :: B).length : Int) = A.length + 2 + B.length := by simp; omega
      have g1 : (A ++ y :: x :: B)[((A.length + 1 : Nat) : Int).toNat]? = some x := by
        rw [Int.toNat_natCast, List.getElem?_append_right (by omega)]; simp
      have g0 : (A ++ y :: x :: B)[((A.length : Nat) : Int).toNat]? = some y := by
        rw [Int.toNat_natCast, List.getElem?_append_right (by omega)]; simp
      have e2 : IntKind.i64.wrap (((A.length + 1 : Nat) : Int) - 1) = ((A.length : Nat) : Int) := wrap_nat' (by omega) (by omega)
      have hym := hSm y (by simp)
      have hxl : inL l x := hv x hxd
      have hyl : inL l y := hv y (hmem y hym).1
      conv => whnf
      dsimp only
      simp only [hjn, hLe]
      refine ⟨⟨by omega, by omega⟩, ?_⟩
      conv => whnf
      refine ⟨x, g1, ?_⟩
      conv => whnf
      try simp only [e2]
      refine ⟨⟨by omega, by omega⟩, ?_⟩
      conv => whnf
      refine ⟨y, g0, ?_⟩
      conv => whnf
      refine ⟨_, c_ranked1 l x y hxl hyl, ?_⟩
      conv => whnf
      refine ⟨fun hc => ?_, fun hc => ?_⟩
      · have hc := (hkey.cmp x y hxl hyl).1 (of_decide_eq_true hc)
        conv => whnf
        refine ⟨by decide +kernel, ?_⟩
        conv => whnf
        try simp only [e2]
        refine ⟨⟨by omega, by omega⟩, ?_⟩
        conv => whnf
        refine ⟨y, g0, ?_⟩
        conv => whnf
        try simp only [e2]
        refine ⟨⟨by omega, by omega⟩, ?_⟩
        conv => whnf
        refine ⟨x, g1, ?_⟩
        conv => whnf
        try simp only [e2]
        refine ⟨⟨by omega, by omega⟩, ?_⟩
        conv => whnf
        have s1 : (A ++ y :: x :: B).set (((A.length + 1 : Nat) : Int).toNat) y = A ++ y :: y :: B := by
          rw [Int.toNat_natCast, show A ++ y :: x :: B = (A ++ [y]) ++ x :: B by simp, show A.length + 1 = (A ++ [y]).length by simp, set_app]; simp
        have s2 : (A ++ y :: y :: B).set (((A.length : Nat) : Int).toNat) x = A ++ x :: y :: B := by
          rw [Int.toNat_natCast, set_app]
        have g2 : (A ++ y :: y :: B)[((A.length : Nat) : Int).toNat]? = some y := by
          rw [Int.toNat_natCast, List.getElem?_append_right (by omega)]; simp
        have hl2 : ((A ++ y :: y :: B).length : Int) = A.length + 2 + B.length := by simp; omega
        refine ⟨x, g1, ?_⟩
        conv => whnf
        try simp only [e2, s1]
        refine ⟨⟨by omega, by omega⟩, ?_⟩
        conv => whnf
        refine ⟨y, g2, ?_⟩
        conv => whnf
        try simp only [e2, s2]
        refine ⟨(S1', y :: S2), ⟨[(0, 0)], rfl, rfl, ⟨rfl, rfl, rfl, ⟨rfl, ⟨⟨trivial, rfl⟩, rfl⟩, rfl⟩, rfl, ?_, trivial⟩, ⟨⟨rfl, ?_⟩, trivial⟩, rfl, rfl⟩, ⟨?_, ?_⟩, ?_⟩
        · show _ = _
          rw [hp]
        · show _ = _
          rw [hA, hB]; rfl
        · rw [← hS]; simp
        · intro z hz
          rw [List.mem_cons] at hz
          rcases hz with rfl | hz
          · exact leB_iff.2 (.inl (.inl hc))
          · exact hS2 z hz
        · show S1'.length < (S1' ++ [y]).length
          simp
      · have hc : ¬ key x < key y := fun hk => of_decide_eq_false hc ((hkey.cmp x y hxl hyl).2 hk)
        have hyx : leB key y x = true := by
          rw [leB_not]; unfold bef
          have := (hmem y hym).2
          omega
        have hsrt : Srt key ((S1' ++ [y]) ++ x :: S2) := ins_srt (by rw [hS]; exact srt_srt _) hS2 (fun z hz => by
          simp at hz; subst hz; exact hyx)
        conv => whnf
        have hfin : (S1' ++ [y]) ++ x :: S2 = srt key (seg d a (i + 1)) := srt_uniq hsrt (by
          rw [hseg]
          refine List.Perm.trans List.perm_middle ?_
          refine List.Perm.trans (List.Perm.cons _ hpm) ?_
          exact (List.perm_append_singleton _ _).symm)
        refine ⟨(i + 1, d.take a ++ srt key (seg d a (i + 1)) ++ d.drop (i + 1)), ⟨[(0, 0)], rfl, rfl, ⟨rfl, rfl, rfl, ⟨rfl, ⟨⟨trivial, rfl⟩, rfl⟩, rfl⟩, ?_, trivial⟩, ⟨⟨rfl, ?_⟩, trivial⟩, rfl, rfl⟩, ⟨by dsimp only; omega, .inl ⟨hib, rfl⟩⟩, ?_⟩
        · show _ = _
          rw [wrap_succ (n := d.length) (by omega) (by unfold maxLen; omega)]
        · show _ = _
          rw [← hLe, ← hfin]; simp
        · show b - (i + 1) < b - i
          omega
    · have hS1 : S1 = [] := by
        have h := of_decide_eq_false h
        dsimp only at h
        exact List.eq_nil_of_length_eq_zero (by omega)
      have hsrt : Srt key (S1 ++ x :: S2) := ins_srt (by rw [hS]; exact srt_srt _) hS2 (fun z hz => by rw [hS1] at hz; simp at hz)
      conv => whnf
      have hfin : S1 ++ x :: S2 = srt key (seg d a (i + 1)) := srt_uniq hsrt (by
        rw [hseg]
        refine List.Perm.trans List.perm_middle ?_
        refine List.Perm.trans (List.Perm.cons _ hpm) ?_
        exact (List.perm_append_singleton _ _).symm)
      refine ⟨(i + 1, d.take a ++ srt key (seg d a (i + 1)) ++ d.drop (i + 1)), ⟨[(0, 0)], rfl, rfl, ⟨rfl, rfl, rfl, ⟨rfl, ⟨⟨trivial, rfl⟩, rfl⟩, rfl⟩, ?_, trivial⟩, ⟨⟨rfl, ?_⟩, trivial⟩, rfl, rfl⟩, ⟨by dsimp only; omega, .inl ⟨hib, rfl⟩⟩, ?_⟩
      · show _ = _
        rw [wrap_succ (n := d.length) (by omega) (by unfold maxLen; omega)]
      · show _ = _
        rw [← hfin]; simp
      · show b - (i + 1) < b - i
        omega
  · have hib : b ≤ i := ge_of_dec h
    conv => whnf
    refine ⟨rfl, [(0, 0)], rfl, rfl, ⟨rfl, trivial⟩, ⟨⟨rfl, ?_⟩, trivial⟩, rfl, rfl⟩
    show _ = _
    rcases hI with ⟨h1, h2⟩ | ⟨h1, h2, h3⟩
    · have : i = b := by omega
      subst this
      rw [h2]
    · have : b = a := by omega
      subst this
      rw [h3, show seg d b b = [] by simp [seg], show srt key [] = [] by simp [srt], List.append_nil, List.take_append_drop]
end Go.R

open Go Go.V Go.Proofs
namespace Go.R
set_option maxRecDepth 100000

theorem swp_ex (P M Q : List Int) (x y : Int) : swp (P ++ x :: (M ++ y :: Q)) P.length (P.length + 1 + M.length) = P ++ y :: (M ++ x :: Q) := by
  unfold swp
  have e1 : (P ++ x :: (M ++ y :: Q)).getD P.length 0 = x := by simp
  have e2 : (P ++ x :: (M ++ y :: Q)).getD (P.length + 1 + M.length) 0 = y := by
    rw [show P ++ x :: (M ++ y :: Q) = (P ++ x :: M) ++ y :: Q by simp, show P.length + 1 + M.length = (P ++ x :: M).length by simp; omega]
    simp
  rw [e1, e2, set_app, show P ++ y :: (M ++ y :: Q) = (P ++ y :: M) ++ y :: Q by simp, show P.length + 1 + M.length = (P ++ y :: M).length by simp; omega, set_app]
  simp

theorem swpN_ex : ∀ (n : Nat) (P X M Y Q : List Int), X.length = n → Y.length = n → swpN (P ++ X ++ M ++ Y ++ Q) P.length (P.length + n + M.length) n = P ++ Y ++ M ++ X ++ Q
  | 0, P, X, M, Y, Q, hX, hY => by
    rw [List.eq_nil_of_length_eq_zero hX, List.eq_nil_of_length_eq_zero hY]; simp [swpN]
  | n + 1, P, X, M, Y, Q, hX, hY => by
    rcases List.eq_nil_or_concat X with rfl | ⟨X', x, rfl⟩
    · simp at hX
    rcases List.eq_nil_or_concat Y with rfl | ⟨Y', y, rfl⟩
    · simp at hY
    simp only [List.concat_eq_append, List.length_append, List.length_singleton] at hX hY ⊢
    have ih := swpN_ex n P X' (x :: M) Y' (y :: Q) (by omega) (by omega)
    rw [swpN]
    have e1 : P ++ (X' ++ [x]) ++ M ++ (Y' ++ [y]) ++ Q = P ++ X' ++ x :: M ++ Y' ++ y :: Q := by simp
    rw [e1, show P.length + (n + 1) + M.length = P.length + n + (x :: M).length by simp; omega, ih]
    have e2 : P ++ Y' ++ x :: M ++ X' ++ y :: Q = (P ++ Y') ++ x :: ((M ++ X') ++ y :: Q) := by simp
    have e3 : P.length + n = (P ++ Y').length := by simp; omega
    have e4 : P.length + n + (x :: M).length + n = (P ++ Y').length + 1 + (M ++ X').length := by simp; omega
    rw [e4, e3, e2, swp_ex]
    simp

theorem c_rotate (l : List Nat) (d : List Int) (P U V Q : List Int) (hd0 : d = P ++ U ++ V ++ Q) (hd : d.length ≤ 1048576) (hU : 0 < U.length) (hV : 0 < V.length) :
    ConW Try.prog 51 [.own 0, .val (.int .i64 P.length), .val (.int .i64 (P.length + U.length : Nat)), .val (.int .i64 (P.length + U.length + V.length : Nat)), cl l] [(0, .row 2 (.int .i64) d)] (.tup []) [(0, .row 2 (.int .i64) (P ++ V ++ U ++ Q))] := by
  have hdl : P.length + U.length + V.length + Q.length = d.length := by rw [hd0]; simp; omega
  refine conW_of tabOK mixed ⟨58, [0,1,2,3,4,10,11,20,23], [], [.own 0]⟩ rfl (by decide) rfl rfl rfl rfl rfl ?_
  obtain ⟨m, hm⟩ : ∃ m, m = P.length + U.length := ⟨_, rfl⟩
  have e1 : IntKind.i64.wrap (((P.length + U.length : Nat) : Int) - (P.length : Int)) = ((U.length : Nat) : Int) := wrap_nat' (by omega) (by omega)
  have e2 : IntKind.i64.wrap (((P.length + U.length + V.length : Nat) : Int) - ((P.length + U.length : Nat) : Int)) = ((V.length : Nat) : Int) := wrap_nat' (by omega) (by omega)
  conv => whnf
  refine ⟨List Int × List Int × List Int × List Int, fun q => [(0, .own 0), (2, .val (.int .i64 (P.length + U.length : Nat))), (4, cl l), (10, .val (.int .i64 q.2.1.length)), (11, .val (.int .i64 q.2.2.1.length))],
    fun q => [(0, .row 2 (.int .i64) (q.1 ++ q.2.1 ++ q.2.2.1 ++ q.2.2.2))],
    fun q => q.1 ++ q.2.2.1 ++ q.2.1 ++ q.2.2.2 = P ++ V ++ U ++ Q ∧ q.1.length + q.2.1.length = P.length + U.length ∧ 0 < q.2.1.length ∧ 0 < q.2.2.1.length, fun q => q.2.1.length + q.2.2.1.length, (P, U, V, Q), ?_, ⟨rfl, rfl, hU, hV⟩, fun q hq => ?_⟩
  · refine ⟨[(0, 0)], rfl, rfl, ⟨rfl, rfl, ⟨rfl, ⟨⟨trivial, rfl⟩, rfl⟩, rfl⟩, ?_, ?_, trivial⟩, ⟨⟨rfl, ?_⟩, trivial⟩, rfl, rfl⟩
    · show _ = _
      rw [e1]
    · show _ = _
      rw [e2]
    · show _ = _
      rw [hd0]
  obtain ⟨p, u, v, r⟩ := q
  obtain ⟨h1, h2, h3, h4⟩ := hq
  dsimp only at h1 h2 h3 h4
  have hl : p.length + u.length + v.length + r.length = d.length := by
    have := congrArg List.length h1
    simp only [List.length_append] at this
    omega
  conv => whnf
  dsimp only
  refine ⟨fun h => ?_, fun h => ?_⟩
  · have hne : u.length ≠ v.length := ne_of_dec h
    conv => whnf
    have e3 : IntKind.i64.wrap (((P.length + U.length : Nat) : Int) - ((u.length : Nat) : Int)) = ((p.length : Nat) : Int) := wrap_nat' (by omega) (by omega)
    refine ⟨fun hc => ?_, fun hc => ?_⟩
    · have hlt : v.length < u.length := by have := of_decide_eq_true hc; omega
      have e4 : IntKind.i64.wrap (((u.length : Nat) : Int) - ((v.length : Nat) : Int)) = ((u.length - v.length : Nat) : Int) := wrap_nat' (by omega) (by omega)
      have hsw := c_swapRange l (p ++ u ++ v ++ r) p.length (P.length + U.length) v.length (by simp only [List.length_append]; omega) (by simp only [List.length_append]; omega) (by simp only [List.length_append]; omega)
      have hu : u = u.take v.length ++ u.drop v.length := (List.take_append_drop _ _).symm
      have hex := swpN_ex v.length p (u.take v.length) (u.drop v.length) v r (by rw [List.length_take]; omega) rfl
      rw [show p ++ u.take v.length ++ u.drop v.length ++ v ++ r = p ++ u ++ v ++ r by rw [List.append_assoc p, List.take_append_drop], show p.length + v.length + (u.drop v.length).length = P.length + U.length by rw [List.length_drop]; omega] at hex
      rw [hex] at hsw
      conv => whnf
      simp only [e3]
      refine .inr ⟨[(0, 0)], [(0, .row 2 (.int .i64) (p ++ u ++ v ++ r))], .tup [], [(0, .row 2 (.int .i64) (p ++ v ++ u.drop v.length ++ u.take v.length ++ r))], [(0, 0)], .tup [], [(0, .row 2 (.int .i64) (p ++ v ++ u.drop v.length ++ u.take v.length ++ r))],
        ⟨rfl, rfl, rfl, ⟨⟨rfl, rfl⟩, trivial⟩⟩, hsw, ⟨rfl, rfl, rfl, ⟨⟨rfl, rfl⟩, trivial⟩⟩, rfl, rfl, rfl, ?_⟩
      conv => whnf
      refine ⟨(p ++ v, u.drop v.length, u.take v.length, r), ⟨[(0, 0)], rfl, rfl, ⟨rfl, rfl, ⟨rfl, ⟨⟨trivial, rfl⟩, rfl⟩, rfl⟩, ?_, ?_, trivial⟩, ⟨⟨rfl, rfl⟩, trivial⟩, rfl, rfl⟩, ⟨?_, ?_, ?_, ?_⟩, ?_⟩
      · show _ = _
        rw [e4, List.length_drop]
      · show _ = _
        rw [List.length_take, Nat.min_eq_left (by omega)]
      · rw [← h1]; simp
      · dsimp only; rw [List.length_append, List.length_drop]; omega
      · dsimp only; rw [List.length_drop]; omega
      · dsimp only; rw [List.length_take]; omega
      · dsimp only; rw [List.length_drop, List.length_take]; omega
    · have hlt : u.length < v.length := by have := of_decide_eq_false hc; omega
      have e4 : IntKind.i64.wrap (((v.length : Nat) : Int) - ((u.length : Nat) : Int)) = ((v.length - u.length : Nat) : Int) := wrap_nat' (by omega) (by omega)
      have e5 : IntKind.i64.wrap (((P.length + U.length : Nat) : Int) + ((v.length : Nat) : Int)) = ((P.length + U.length + v.length : Nat) : Int) := wrap_nat' (by omega) (by omega)
      have e6 : IntKind.i64.wrap (((P.length + U.length + v.length : Nat) : Int) - ((u.length : Nat) : Int)) = ((P.length + U.length + v.length - u.length : Nat) : Int) := wrap_nat' (by omega) (by omega)
      have hsw := c_swapRange l (p ++ u ++ v ++ r) p.length (P.length + U.length + v.length - u.length) u.length (by simp only [List.length_append]; omega) (by simp only [List.length_append]; omega) (by simp only [List.length_append]; omega)
      have hex := swpN_ex u.length p u (v.take (v.length - u.length)) (v.drop (v.length - u.length)) r rfl (by rw [List.length_drop]; omega)
      rw [show p ++ u ++ v.take (v.length - u.length) ++ v.drop (v.length - u.length) ++ r = p ++ u ++ v ++ r by rw [List.append_assoc (p ++ u), List.take_append_drop], show p.length + u.length + (v.take (v.length - u.length)).length = P.length + U.length + v.length - u.length by rw [List.length_take]; omega] at hex
      rw [hex] at hsw
      conv => whnf
      simp only [e3, e5, e6]
      refine .inr ⟨[(0, 0)], [(0, .row 2 (.int .i64) (p ++ u ++ v ++ r))], .tup [], [(0, .row 2 (.int .i64) (p ++ v.drop (v.length - u.length) ++ v.take (v.length - u.length) ++ u ++ r))], [(0, 0)], .tup [], [(0, .row 2 (.int .i64) (p ++ v.drop (v.length - u.length) ++ v.take (v.length - u.length) ++ u ++ r))],
        ⟨rfl, rfl, rfl, ⟨⟨rfl, rfl⟩, trivial⟩⟩, hsw, ⟨rfl, rfl, rfl, ⟨⟨rfl, rfl⟩, trivial⟩⟩, rfl, rfl, rfl, ?_⟩
      conv => whnf
      refine ⟨(p, v.drop (v.length - u.length), v.take (v.length - u.length), u ++ r), ⟨[(0, 0)], rfl, rfl, ⟨rfl, rfl, ⟨rfl, ⟨⟨trivial, rfl⟩, rfl⟩, rfl⟩, ?_, ?_, trivial⟩, ⟨⟨rfl, ?_⟩, trivial⟩, rfl, rfl⟩, ⟨?_, ?_, ?_, ?_⟩, ?_⟩
      · show _ = _
        rw [List.length_drop, show v.length - (v.length - u.length) = u.length by omega]
      · show _ = _
        rw [e4, List.length_take, Nat.min_eq_left (by omega)]
      · show _ = _
        simp
      · rw [← h1]; dsimp only
        rw [show p ++ v.take (v.length - u.length) ++ v.drop (v.length - u.length) ++ (u ++ r) = p ++ (v.take (v.length - u.length) ++ v.drop (v.length - u.length)) ++ u ++ r by simp, List.take_append_drop]
      · dsimp only; rw [List.length_drop]; omega
      · dsimp only; rw [List.length_drop]; omega
      · dsimp only; rw [List.length_take]; omega
      · dsimp only; rw [List.length_drop, List.length_take]; omega
  · have heq : u.length = v.length := eq_of_dec h
    have e3 : IntKind.i64.wrap (((P.length + U.length : Nat) : Int) - ((u.length : Nat) : Int)) = ((p.length : Nat) : Int) := wrap_nat' (by omega) (by omega)
    have hsw := c_swapRange l (p ++ u ++ v ++ r) p.length (P.length + U.length) u.length (by simp only [List.length_append]; omega) (by simp only [List.length_append]; omega) (by simp only [List.length_append]; omega)
    have hex := swpN_ex u.length p u [] v r rfl heq.symm
    rw [List.append_nil, show p.length + u.length + ([] : List Int).length = P.length + U.length by rw [List.length_nil]; omega, List.append_nil] at hex
    rw [hex] at hsw
    conv => whnf
    simp only [e3]
    refine .inr ⟨[(0, 0)], [(0, .row 2 (.int .i64) (p ++ u ++ v ++ r))], .tup [], [(0, .row 2 (.int .i64) (p ++ v ++ u ++ r))], [(0, 0)], .tup [], [(0, .row 2 (.int .i64) (p ++ v ++ u ++ r))],
        ⟨rfl, rfl, rfl, ⟨⟨rfl, rfl⟩, trivial⟩⟩, hsw, ⟨rfl, rfl, rfl, ⟨⟨rfl, rfl⟩, trivial⟩⟩, rfl, rfl, rfl, ?_⟩
    conv => whnf
    refine ⟨rfl, [(0, 0)], rfl, rfl, ⟨rfl, trivial⟩, ⟨⟨rfl, ?_⟩, trivial⟩, rfl, rfl⟩
    show _ = _
    rw [h1]
end Go.R
