/- The reference's order of a gauge. -/
import Derived.Test.YthdbngkbjhpnfaaAc
import Derived.Test.YthdbngkbjhpnfaaVf
set_option linter.unusedVariables false
set_option linter.unusedSimpArgs false
set_option linter.unnecessarySimpa false
open Go Go.V Go.Proofs
namespace Go.R
set_option maxRecDepth 100000

section
variable {l : List Nat} {key : Int → Int} {d : List Int}

theorem seg_app (A R : List Int) {a b : Nat} (ha : A.length = a) : seg (A ++ R) a b = R.take (b - a) := by
  unfold seg; rw [← ha, List.drop_left]
theorem take_app (A R : List Int) {a : Nat} (ha : A.length = a) : (A ++ R).take a = A := by rw [← ha, List.take_left]
theorem drop_app (A R : List Int) {a b : Nat} (ha : A.length = a) (hb : a ≤ b) : (A ++ R).drop b = R.drop (b - a) := by
  rw [List.drop_append, List.drop_eq_nil_of_le (by omega), ha, List.nil_append]

/-- Blocks of twenty, but for the last. -/
theorem st_1 (hkey : Keyed l key) (hd : d.length ≤ 1048576) (hv : ∀ z ∈ d, inL l z) (hinc : d.Pairwise (· < ·))
    (next : ∀ (A : List Int) (a : Nat), A.length = a → a ≤ d.length → d.length < a + 20 → A ++ sb key 20 (d.drop a) = sb key 20 d → (∀ z ∈ A, inL l z) → SF Try.prog tab 63 [.own 0] 38 3 [(0, .own 0), (1, .val (.int .i64 d.length)), (2, cl l), (6, .val (.int .i64 20)), (7, .val (.int .i64 a))] [(0, .row 2 (.int .i64) (A ++ d.drop a))] (.tup []) [(0, .row 2 (.int .i64) (srt key d))]) : SF Try.prog tab 63 [.own 0] 38 0 (number 0 [.own 0, .val (.int .i64 d.length), cl l]) [(0, .row 2 (.int .i64) (d))] (.tup []) [(0, .row 2 (.int .i64) (srt key d))] := by
  refine SF.parts tabOK mixed 0 3 ⟨63, [0,1,2,6,7,8,13], [], [.own 0]⟩ (X := List Int × Nat) (fun q => [(0, .own 0), (1, .val (.int .i64 d.length)), (2, cl l), (6, .val (.int .i64 20)), (7, .val (.int .i64 q.2))])
    (fun q => [(0, .row 2 (.int .i64) (q.1 ++ d.drop q.2))]) (fun q => q.1.length = q.2 ∧ q.2 ≤ d.length ∧ d.length < q.2 + 20 ∧ q.1 ++ sb key 20 (d.drop q.2) = sb key 20 d ∧ (∀ z ∈ q.1, inL l z)) (by decide +kernel) ?_ (fun q hq => next q.1 q.2 hq.1 hq.2.1 hq.2.2.1 hq.2.2.2.1 hq.2.2.2.2)
  conv => whnf
  refine ⟨List Int × Nat, fun q => [(0, .own 0), (1, .val (.int .i64 d.length)), (2, cl l), (6, .val (.int .i64 20)), (7, .val (.int .i64 q.2)), (8, .val (.int .i64 (q.2 + 20 : Nat)))],
    fun q => [(0, .row 2 (.int .i64) (q.1 ++ d.drop q.2))], fun q => q.1.length = q.2 ∧ q.2 ≤ d.length ∧ q.1 ++ sb key 20 (d.drop q.2) = sb key 20 d ∧ (∀ z ∈ q.1, inL l z), fun q => d.length - q.2, ([], 0), ?_, ?_, fun q hq => ?_⟩
  · exact ⟨[(0, 0)], rfl, rfl, ⟨rfl, rfl, ⟨rfl, ⟨⟨trivial, rfl⟩, rfl⟩, rfl⟩, rfl, rfl, rfl, trivial⟩, ⟨⟨rfl, rfl⟩, trivial⟩, rfl, rfl⟩
  · exact ⟨rfl, Nat.zero_le _, by simp, by simp⟩
  obtain ⟨A, a⟩ := q
  obtain ⟨h1, h2, h3, h4⟩ := hq
  dsimp only at h1 h2 h3 h4
  have hlen : (A ++ d.drop a).length = d.length := by rw [List.length_append, List.length_drop]; omega
  have hv' : ∀ z ∈ A ++ d.drop a, inL l z := fun z hz => by
    rw [List.mem_append] at hz
    rcases hz with hz | hz
    · exact h4 z hz
    · exact hv z (List.mem_of_mem_drop hz)
  conv => whnf
  dsimp only
  refine ⟨fun h => ?_, fun h => ?_⟩
  · have h := of_decide_eq_true h
    have hb : a + 20 ≤ d.length := by omega
    have hs := c_insertionSort l key hkey (A ++ d.drop a) a (a + 20) (by omega) (by omega) (by omega) hv' (by
      rw [seg_app _ _ h1]
      exact (hinc.drop).take)
    rw [take_app _ _ h1, seg_app _ _ h1, drop_app _ _ h1 (by omega), List.drop_drop, show a + 20 - a = 20 by omega] at hs
    conv => whnf
    refine .inr ⟨[(0, 0)], [(0, .row 2 (.int .i64) (A ++ d.drop a))], .tup [], [(0, .row 2 (.int .i64) (A ++ srt key ((d.drop a).take 20) ++ d.drop (a + 20)))], [(0, 0)], .tup [], [(0, .row 2 (.int .i64) (A ++ srt key ((d.drop a).take 20) ++ d.drop (a + 20)))], ⟨rfl, rfl, rfl, ⟨⟨rfl, rfl⟩, trivial⟩⟩, hs, ⟨rfl, rfl, rfl, ⟨⟨rfl, rfl⟩, trivial⟩⟩, rfl, rfl, rfl, ?_⟩
    conv => whnf
    refine ⟨(A ++ srt key ((d.drop a).take 20), a + 20), ⟨[(0, 0)], rfl, rfl, ⟨rfl, rfl, ⟨rfl, ⟨⟨trivial, rfl⟩, rfl⟩, rfl⟩, rfl, rfl, ?_, trivial⟩, ⟨⟨rfl, rfl⟩, trivial⟩, rfl, rfl⟩, ⟨?_, hb, ?_, ?_⟩, ?_⟩
    · exact vw (by first | omega | (dsimp only; omega)) (by first | omega | (dsimp only; omega))
    · dsimp only; rw [List.length_append, srt_len, List.length_take, List.length_drop]; omega
    · dsimp only
      rw [← h3, sb_step (s := d.drop a) (by omega) (by rw [List.length_drop]; omega), List.drop_drop, List.append_assoc]
    · dsimp only
      intro z hz
      rw [List.mem_append, (srt_perm _).mem_iff] at hz
      rcases hz with hz | hz
      · exact h4 z hz
      · exact hv z (List.mem_of_mem_drop (List.mem_of_mem_take hz))
    · dsimp only; omega
  · have h := of_decide_eq_false h
    conv => whnf
    refine ⟨(A, a), ⟨[(0, 0)], rfl, rfl, ⟨rfl, rfl, ⟨rfl, ⟨⟨trivial, rfl⟩, rfl⟩, rfl⟩, rfl, rfl, trivial⟩, ⟨⟨rfl, rfl⟩, trivial⟩, rfl, rfl⟩, h1, h2, ?_, h3, h4⟩
    dsimp only; omega

/-- The last block. -/
theorem st_2 (hkey : Keyed l key) (hd : d.length ≤ 1048576) (hv : ∀ z ∈ d, inL l z) (hinc : d.Pairwise (· < ·))
    (next : SF Try.prog tab 63 [.own 0] 38 4 [(0, .own 0), (1, .val (.int .i64 d.length)), (2, cl l), (6, .val (.int .i64 (20 : Nat)))] [(0, .row 2 (.int .i64) (sb key 20 d))] (.tup []) [(0, .row 2 (.int .i64) (srt key d))]) (A : List Int) (a : Nat) (h1 : A.length = a) (h2 : a ≤ d.length) (h5 : d.length < a + 20) (h3 : A ++ sb key 20 (d.drop a) = sb key 20 d) (h4 : ∀ z ∈ A, inL l z) : SF Try.prog tab 63 [.own 0] 38 3 [(0, .own 0), (1, .val (.int .i64 d.length)), (2, cl l), (6, .val (.int .i64 20)), (7, .val (.int .i64 a))] [(0, .row 2 (.int .i64) (A ++ d.drop a))] (.tup []) [(0, .row 2 (.int .i64) (srt key d))] := by
  have hlen : (A ++ d.drop a).length = d.length := by rw [List.length_append, List.length_drop]; omega
  have hv' : ∀ z ∈ A ++ d.drop a, inL l z := fun z hz => by
    rw [List.mem_append] at hz
    rcases hz with hz | hz
    · exact h4 z hz
    · exact hv z (List.mem_of_mem_drop hz)
  have hs := c_insertionSort l key hkey (A ++ d.drop a) a d.length (by omega) (by omega) (by omega) hv' (by
      rw [seg_app _ _ h1]
      exact (hinc.drop).take)
  rw [take_app _ _ h1, seg_app _ _ h1, show (A ++ d.drop a).drop d.length = [] from List.drop_eq_nil_of_le (by omega), List.append_nil, List.take_of_length_le (by rw [List.length_drop]; omega), ← sb_short (bs := 20) (by rw [List.length_drop]; omega), h3] at hs
  refine SF.parts tabOK mixed 3 1 ⟨63, [0,1,2,6], [], [.own 0]⟩ (X := Unit) (fun _ => [(0, .own 0), (1, .val (.int .i64 d.length)), (2, cl l), (6, .val (.int .i64 (20 : Nat)))]) (fun _ => [(0, .row 2 (.int .i64) (sb key 20 d))]) (fun _ => True) (by decide +kernel) ?_ (fun _ _ => next)
  conv => whnf
  refine .inr ⟨[(0, 0)], [(0, .row 2 (.int .i64) (A ++ d.drop a))], .tup [], [(0, .row 2 (.int .i64) (sb key 20 d))], [(0, 0)], .tup [], [(0, .row 2 (.int .i64) (sb key 20 d))], ⟨rfl, rfl, rfl, ⟨⟨rfl, rfl⟩, trivial⟩⟩, hs, ⟨rfl, rfl, rfl, ⟨⟨rfl, rfl⟩, trivial⟩⟩, rfl, rfl, rfl, ?_⟩
  conv => whnf
  exact ⟨(), ⟨[(0, 0)], rfl, rfl, ⟨rfl, rfl, ⟨rfl, ⟨⟨trivial, rfl⟩, rfl⟩, rfl⟩, rfl, trivial⟩, ⟨⟨rfl, rfl⟩, trivial⟩, rfl, rfl⟩, trivial⟩

theorem sorted_mem {bs : Nat} (h0 : 0 < bs) {s : List Int} {z : Int} : z ∈ sb key bs s ↔ z ∈ s := (sb_perm h0 _ s (Nat.le_refl _)).mem_iff

/-- The blocks are merged, two by two, until there is one. -/
theorem st_3 (hkey : Keyed l key) (hd : d.length ≤ 1048576) (hv : ∀ z ∈ d, inL l z) (hinc : d.Pairwise (· < ·)) : SF Try.prog tab 63 [.own 0] 38 4 [(0, .own 0), (1, .val (.int .i64 d.length)), (2, cl l), (6, .val (.int .i64 (20 : Nat)))] [(0, .row 2 (.int .i64) (sb key 20 d))] (.tup []) [(0, .row 2 (.int .i64) (srt key d))] := by
  refine SF.last tabOK mixed 4 ⟨63, [0,1,2,6,7,8,9,30,35,54], [], [.own 0]⟩ ?_
  conv => whnf
  refine vloop (X := Nat) (fun bs => [(0, .own 0), (1, .val (.int .i64 d.length)), (2, cl l), (6, .val (.int .i64 bs))]) (fun bs => [(0, .row 2 (.int .i64) (sb key bs d))]) (fun bs => 20 ≤ bs ∧ bs ≤ 1048576 * 2) (fun bs => d.length - bs) 20 ?_ ⟨by omega, by omega⟩ ?_
  · exact ⟨[(0, 0)], rfl, rfl, ⟨rfl, rfl, ⟨rfl, ⟨⟨trivial, rfl⟩, rfl⟩, rfl⟩, rfl, trivial⟩, ⟨⟨rfl, rfl⟩, trivial⟩, rfl, rfl⟩
  intro bs hbs Q' hn hx hr
  conv => whnf
  refine ⟨fun h => ?_, fun h => ?_⟩
  case refine_2 =>
    have h := of_decide_eq_false h
    refine hx _ _ _ ?_
    conv => whnf
    refine ⟨rfl, [(0, 0)], rfl, rfl, ⟨rfl, trivial⟩, ⟨⟨rfl, ?_⟩, trivial⟩, rfl, rfl⟩
    show _ = _
    rw [sb_short (by omega)]
  have h := of_decide_eq_true h
  have hbn : bs < d.length := by omega
  have e0 : IntKind.i64.wrap (2 * (bs : Int)) = ((2 * bs : Nat) : Int) := wrap_nat' (by omega) (by omega)
  have e0' : IntKind.i64.wrap ((bs : Int) * 2) = ((2 * bs : Nat) : Int) := wrap_nat' (by omega) (by omega)
  conv => whnf
  -- pairs
  refine vloop (X := List Int × Nat) (fun q => [(0, .own 0), (1, .val (.int .i64 d.length)), (2, cl l), (6, .val (.int .i64 bs)), (7, .val (.int .i64 q.2)), (8, .val (.int .i64 (q.2 + 2 * bs : Nat)))])
    (fun q => [(0, .row 2 (.int .i64) (q.1 ++ sb key bs (d.drop q.2)))]) (fun q => q.1.length = q.2 ∧ q.2 ≤ d.length ∧ q.1 ++ sb key (bs + bs) (d.drop q.2) = sb key (bs + bs) d ∧ (∀ z ∈ q.1, inL l z)) (fun q => d.length - q.2) ([], 0) ?_ ?_ ?_
  · refine ⟨[(0, 0)], rfl, rfl, ⟨rfl, rfl, ⟨rfl, ⟨⟨trivial, rfl⟩, rfl⟩, rfl⟩, rfl, rfl, ?_, trivial⟩, ⟨⟨rfl, rfl⟩, trivial⟩, rfl, rfl⟩
    show _ = _
    simp only [e0, Nat.zero_add]
  · exact ⟨rfl, Nat.zero_le _, by simp, by simp⟩
  rintro ⟨A, a⟩ ⟨h1, h2, h3, h4⟩ Q2 hn2 hx2 hr2
  dsimp only at h1 h2 h3 h4
  have hlen : (A ++ sb key bs (d.drop a)).length = d.length := by rw [List.length_append, sb_len (by omega), List.length_drop]; omega
  have hv' : ∀ z ∈ A ++ sb key bs (d.drop a), inL l z := fun z hz => by
    rw [List.mem_append, sorted_mem (by omega)] at hz
    rcases hz with hz | hz
    · exact h4 z hz
    · exact hv z (List.mem_of_mem_drop hz)
  have hcross : ∀ n m, ∀ x ∈ srt key ((d.drop a).take n), ∀ y ∈ srt key (((d.drop a).drop n).take m), x < y := fun n m x hx y hy => by
    rw [(srt_perm _).mem_iff] at hx hy
    exact cross (hinc.drop (i := a)) n x hx y (List.mem_of_mem_take hy)
  have e1 : IntKind.i64.wrap ((a : Int) + (bs : Int)) = ((a + bs : Nat) : Int) := wrap_nat' (by omega) (by omega)
  conv => whnf
  dsimp only
  refine ⟨fun h => ?_, fun h => ?_⟩
  · have h := of_decide_eq_true h
    have hb : a + 2 * bs ≤ d.length := by omega
    have hm := c_merge l key hkey _ (A ++ sb key bs (d.drop a)) A (srt key ((d.drop a).take bs)) (srt key (((d.drop a).drop bs).take bs)) (sb key bs (((d.drop a).drop bs).drop bs)) (Nat.le_refl _) (by
      rw [sb_step (s := d.drop a) (by omega) (by rw [List.length_drop]; omega), sb_step (s := (d.drop a).drop bs) (by omega) (by rw [List.length_drop, List.length_drop]; omega)]
      simp) (by omega) hv' (srt_srt _) (srt_srt _) (by rw [srt_len, List.length_take, List.length_drop]; omega) (by rw [srt_len, List.length_take, List.length_drop, List.length_drop]; omega) (hcross _ _)
    unfold MergeOk at hm
    rw [srt_two, ← take_two, srt_len, srt_len, List.length_take, List.length_take, List.length_drop, List.length_drop, List.length_drop, Nat.min_eq_left (by omega), Nat.min_eq_left (by omega), h1, List.drop_drop, List.drop_drop, show a + bs + bs = a + 2 * bs by omega, show a + (bs + bs) = a + 2 * bs by omega] at hm
    conv => whnf
    simp only [e1]
    refine .inr ⟨[(0, 0)], [(0, .row 2 (.int .i64) (A ++ sb key bs (d.drop a)))], .tup [], [(0, .row 2 (.int .i64) (A ++ srt key ((d.drop a).take (bs + bs)) ++ sb key bs (d.drop (a + 2 * bs))))], [(0, 0)], .tup [], [(0, .row 2 (.int .i64) (A ++ srt key ((d.drop a).take (bs + bs)) ++ sb key bs (d.drop (a + 2 * bs))))], ⟨rfl, rfl, rfl, ⟨⟨rfl, rfl⟩, trivial⟩⟩, hm, ⟨rfl, rfl, rfl, ⟨⟨rfl, rfl⟩, trivial⟩⟩, rfl, rfl, rfl, ?_⟩
    conv => whnf
    refine hn2 _ _ ?_
    refine ⟨(A ++ srt key ((d.drop a).take (bs + bs)), a + 2 * bs), ⟨[(0, 0)], rfl, rfl, ⟨rfl, rfl, ⟨rfl, ⟨⟨trivial, rfl⟩, rfl⟩, rfl⟩, rfl, rfl, ?_, trivial⟩, ⟨⟨rfl, rfl⟩, trivial⟩, rfl, rfl⟩, ⟨?_, hb, ?_, ?_⟩, ?_⟩
    · show _ = _
      simp only [e0]
      exact vw (by first | omega | (dsimp only; omega)) (by first | omega | (dsimp only; omega))
    · dsimp only; rw [List.length_append, srt_len, List.length_take, List.length_drop]; omega
    · dsimp only
      rw [← h3, sb_step (s := d.drop a) (bs := bs + bs) (by omega) (by rw [List.length_drop]; omega), List.drop_drop, List.append_assoc, show a + (bs + bs) = a + 2 * bs by omega]
    · dsimp only
      intro z hz
      rw [List.mem_append, (srt_perm _).mem_iff] at hz
      rcases hz with hz | hz
      · exact h4 z hz
      · exact hv z (List.mem_of_mem_drop (List.mem_of_mem_take hz))
    · dsimp only; omega
  · have h := of_decide_eq_false h
    refine hx2 _ _ _ ?_
    conv => whnf
    simp only [e1]
    refine ⟨fun h6 => ?_, fun h6 => ?_⟩
    · have h6 := of_decide_eq_true h6
      have hm := c_merge l key hkey _ (A ++ sb key bs (d.drop a)) A (srt key ((d.drop a).take bs)) (srt key (((d.drop a).drop bs).take bs)) [] (Nat.le_refl _) (by
        rw [sb_step (s := d.drop a) (by omega) (by rw [List.length_drop]; omega), sb_short (s := (d.drop a).drop bs) (by rw [List.length_drop, List.length_drop]; omega), List.take_of_length_le (l := (d.drop a).drop bs) (by rw [List.length_drop, List.length_drop]; omega)]
        simp) (by omega) hv' (srt_srt _) (srt_srt _) (by rw [srt_len, List.length_take, List.length_drop]; omega) (by rw [srt_len, List.length_take, List.length_drop, List.length_drop]; omega) (hcross _ _)
      unfold MergeOk at hm
      rw [srt_two, ← take_two, srt_len, srt_len, List.length_take, List.length_take, List.length_drop, List.length_drop, List.length_drop, Nat.min_eq_left (by omega), Nat.min_eq_right (by omega), h1, List.append_nil, List.take_of_length_le (by rw [List.length_drop]; omega),
        ← sb_short (bs := bs + bs) (by rw [List.length_drop]; omega), h3, show a + bs + (d.length - a - bs) = d.length by omega] at hm
      conv => whnf
      simp only [e1]
      refine .inr ⟨[(0, 0)], [(0, .row 2 (.int .i64) (A ++ sb key bs (d.drop a)))], .tup [], [(0, .row 2 (.int .i64) (sb key (bs + bs) d))], [(0, 0)], .tup [], [(0, .row 2 (.int .i64) (sb key (bs + bs) d))], ⟨rfl, rfl, rfl, ⟨⟨rfl, rfl⟩, trivial⟩⟩, hm, ⟨rfl, rfl, rfl, ⟨⟨rfl, rfl⟩, trivial⟩⟩, rfl, rfl, rfl, ?_⟩
      conv => whnf
      refine hn _ _ ?_
      refine ⟨bs + bs, ⟨[(0, 0)], rfl, rfl, ⟨rfl, rfl, ⟨rfl, ⟨⟨trivial, rfl⟩, rfl⟩, rfl⟩, ?_, trivial⟩, ⟨⟨rfl, rfl⟩, trivial⟩, rfl, rfl⟩, ⟨by omega, by omega⟩, by omega⟩
      show _ = _
      simp only [e0']
      exact vi (by omega)
    · have h6 := of_decide_eq_false h6
      have hm : A ++ sb key bs (d.drop a) = sb key (bs + bs) d := by
        rw [← h3, sb_short (by rw [List.length_drop]; omega), sb_short (by rw [List.length_drop]; omega)]
      conv => whnf
      refine hn _ _ ?_
      refine ⟨bs + bs, ⟨[(0, 0)], rfl, rfl, ⟨rfl, rfl, ⟨rfl, ⟨⟨trivial, rfl⟩, rfl⟩, rfl⟩, ?_, trivial⟩, ⟨⟨rfl, ?_⟩, trivial⟩, rfl, rfl⟩, ⟨by omega, by omega⟩, by omega⟩
      · show _ = _
        simp only [e0']
        exact vi (by omega)
      · show _ = _
        rw [hm]

theorem c_stable (hkey : Keyed l key) (hd : d.length ≤ 1048576) (hv : ∀ z ∈ d, inL l z) (hinc : d.Pairwise (· < ·)) :
    ConW Try.prog 38 [.own 0, .val (.int .i64 d.length), cl l] [(0, .row 2 (.int .i64) (d))] (.tup []) [(0, .row 2 (.int .i64) (srt key d))] := by
  refine SF.con tabOK 63 rfl (by decide) rfl rfl rfl rfl ?_
  exact st_1 hkey hd hv hinc (st_2 hkey hd hv hinc (st_3 hkey hd hv hinc))

theorem c_SortStable (hkey : Keyed l key) (hd : d.length ≤ 1048576) (hv : ∀ z ∈ d, inL l z) (hinc : d.Pairwise (· < ·)) :
    ConW Try.prog 28 [.own 0, cl l] [(0, .row 2 (.int .i64) (d))] (.tup []) [(0, .row 2 (.int .i64) (srt key d))] := by
  refine conW_of tabOK mixed ⟨9, [], [], [.own 0]⟩ rfl (by decide) rfl rfl rfl rfl rfl ?_
  conv => whnf
  refine .inr ⟨[(0, 0)], [(0, .row 2 (.int .i64) (d))], .tup [], [(0, .row 2 (.int .i64) (srt key d))], [(0, 0)], .tup [], [(0, .row 2 (.int .i64) (srt key d))], ⟨rfl, rfl, rfl, ⟨⟨rfl, rfl⟩, trivial⟩⟩, c_stable hkey hd hv hinc, ⟨rfl, rfl, rfl, ⟨⟨rfl, rfl⟩, trivial⟩⟩, rfl, rfl, rfl, ?_⟩
  conv => whnf
  refine ⟨rfl, [(0, 0)], rfl, rfl, ⟨rfl, trivial⟩, ⟨⟨rfl, ?_⟩, trivial⟩, rfl, rfl⟩
  show _ = _
  rfl
end
end Go.R

open Go Go.V Go.Proofs
namespace Go.R
set_option maxRecDepth 100000

def rng (n : Nat) : List Int := (List.range n).map (fun k : Nat => (k : Int))
theorem rng_succ (n : Nat) : rng (n + 1) = rng n ++ [(n : Int)] := by simp [rng, List.range_succ]
theorem rng_len (n : Nat) : (rng n).length = n := by simp [rng]
theorem rng_inc (n : Nat) : (rng n).Pairwise (· < ·) := by
  rw [rng, List.pairwise_map]
  exact List.pairwise_lt_range.imp fun h => by omega
theorem rng_mem {n : Nat} {z : Int} (h : z ∈ rng n) : 0 ≤ z ∧ z.toNat < n := by
  simp only [rng, List.mem_map, List.mem_range] at h
  obtain ⟨k, h1, rfl⟩ := h
  omega

theorem c_ranked (l : List Nat) (key : Int → Int) (hkey : Keyed l key) (hl : l.length ≤ 1048576) :
    Con Try.prog 22 [.sl false (.flt .f32) l] (.own 0) [(0, .row 2 (.int .i64) (srt key (rng l.length)))] := by
  refine con_of tabOK mixed ⟨20, [1,2,3,4,7,8,9,17], [5], []⟩ rfl (by decide) rfl rfl rfl rfl ?_
  conv => whnf
  refine ⟨Nat, fun i => [(1, .ptrR [.sl false (.flt .f32) l]), (3, .own 0), (7, .val (.int .i64 l.length)), (8, .val (.int .i64 i))], fun i => [(0, .row 2 (.int .i64) (rng i))], fun i => i ≤ l.length, fun i => l.length - i, 0, ?_, Nat.zero_le _, fun i hi => ?_⟩
  · exact ⟨[(0, 0)], rfl, rfl, ⟨⟨⟨trivial, rfl⟩, rfl⟩, rfl, rfl, rfl, trivial⟩, ⟨⟨rfl, rfl⟩, trivial⟩, rfl⟩
  have hi : i ≤ l.length := hi
  conv => whnf
  refine ⟨fun h => ?_, fun h => ?_⟩
  · have hlt : i < l.length := lt_of_dec h
    conv => whnf
    refine ⟨⟨?_, ?_⟩, ?_⟩
    · rw [rng_len]; simp; omega
    · rw [rng_len]; simp; omega
    conv => whnf
    refine ⟨i + 1, ⟨[(1, 0)], rfl, rfl, ⟨⟨⟨trivial, rfl⟩, rfl⟩, rfl, rfl, ?_, trivial⟩, ⟨⟨rfl, ?_⟩, trivial⟩, rfl⟩, hlt, ?_⟩
    · exact vw (by omega) (by omega)
    · show _ = _
      rw [rng_succ]
    · show l.length - (i + 1) < l.length - i
      omega
  · have hlt : i = l.length := Nat.le_antisymm hi (ge_of_dec h)
    subst hlt
    conv => whnf
    refine .inr ⟨[(0, 0)], [(0, .row 2 (.int .i64) (rng l.length))], .tup [], [(0, .row 2 (.int .i64) (srt key (rng l.length)))], [(0, 0)], .tup [], [(0, .row 2 (.int .i64) (srt key (rng l.length)))], ⟨rfl, rfl, rfl, ⟨⟨rfl, rfl⟩, trivial⟩⟩,
      c_SortStable hkey (by rw [rng_len]; exact hl) (fun z hz => rng_mem hz) (rng_inc _), ⟨rfl, rfl, rfl, ⟨⟨rfl, rfl⟩, trivial⟩⟩, rfl, rfl, rfl, ?_⟩
    conv => whnf
    exact ⟨rfl, [(0, 0)], rfl, rfl, ⟨rfl, trivial⟩, ⟨⟨rfl, rfl⟩, trivial⟩, rfl⟩
end Go.R

open Go Go.V Go.Proofs
namespace Go.R
set_option maxRecDepth 100000

/-- What a row of numbers is told by, both ways. -/
structure KeyedG (l : List Nat) (key : Int → Int) : Prop where
  gt : ∀ x y, inL l x → inL l y → (fgt .f32 (vl l x) (vl l y) = true ↔ key x < key y)

theorem KeyedG.k {l : List Nat} {key : Int → Int} (h : KeyedG l key) : Keyed l key := ⟨fun x y hx hy => by
  rw [← h.gt x y hx hy]
  unfold cmpV
  split
  · rename_i e; simp [e]
  · rename_i e
    split <;> simp [e]⟩

theorem order_step {key : Int → Int} {i : Nat} {A B : List Int} (hS : A ++ B = srt key (rng i)) (hA : ∀ x ∈ A, ¬ key i < key x) (hB : ∀ y, B.head? = some y → key i < key y) :
    A ++ (i : Int) :: B = srt key (rng (i + 1)) := by
  have hs : Srt key (A ++ B) := by rw [hS]; exact srt_srt _
  have hlt : ∀ x ∈ A ++ B, x < (i : Int) := fun x hx => by
    rw [hS, (srt_perm _).mem_iff] at hx
    have := rng_mem hx
    omega
  refine srt_uniq (ins_srt hs (fun y hy => ?_) (fun y hy => ?_)) ?_
  · have hp := hs
    rw [Srt, List.pairwise_append] at hp
    cases B with
    | nil => simp at hy
    | cons z B =>
      have h1 := hB z rfl
      exact leB_trans _ _ _ (leB_lt h1) (head_le hp.2.1 hy rfl)
  · have hm : y ∈ A := List.mem_of_getLast? hy
    have := hA y hm
    exact leB_of (by omega) (hlt y (by simp [hm]))
  · rw [rng_succ]
    refine List.perm_middle.trans ?_
    refine (List.Perm.cons _ (hS ▸ srt_perm (rng i))).trans ?_
    exact (List.perm_append_singleton _ _).symm

theorem c_l07Order (l : List Nat) (key : Int → Int) (hkey : KeyedG l key) (hl : l.length ≤ 1048576) :
    Con Try.prog 20 [.sl false (.flt .f32) l] (.own 0) [(0, .row 2 (.int .i64) (srt key (rng l.length)))] := by
  refine con_of tabOK mixed ⟨57, [0,2,3,4,5,6,7,10,11,12,16,17,18,35,49], [8,14], []⟩ rfl (by decide) rfl rfl rfl rfl ?_
  conv => whnf
  refine vloop (X := Nat) (fun i => [(0, .sl false (.flt .f32) l), (3, .own 0), (10, .val (.int .i64 l.length)), (11, .val (.int .i64 i))]) (fun i => [(0, .row 2 (.int .i64) (srt key (rng i)))]) (fun i => i ≤ l.length) (fun i => l.length - i) 0 ?_ (Nat.zero_le _) ?_
  · refine ⟨[(0, 0)], rfl, rfl, ⟨⟨trivial, rfl⟩, rfl, rfl, rfl, trivial⟩, ⟨⟨rfl, ?_⟩, trivial⟩, rfl⟩
    show _ = _
    rw [show rng 0 = [] from rfl, srt_nil]
  intro i hi Q' hn hx hr
  conv => whnf
  refine ⟨fun h => ?_, fun h => ?_⟩
  case refine_2 =>
    have hlt : i = l.length := Nat.le_antisymm hi (ge_of_dec h)
    subst hlt
    refine hx _ _ _ ?_
    conv => whnf
    exact ⟨rfl, [(0, 0)], rfl, rfl, ⟨rfl, trivial⟩, ⟨⟨rfl, rfl⟩, trivial⟩, rfl⟩
  have hlt : i < l.length := lt_of_dec h
  have hS : (srt key (rng i)).length = i := by rw [srt_len, rng_len]
  conv => whnf
  refine vloop (X := Nat × List Int × List Int × Bool) (fun q => [(0, .sl false (.flt .f32) l), (3, .own 0), (4, .val (.int .i64 i)), (5, .own 1), (6, .val (.bool q.2.2.2)), (10, .val (.int .i64 l.length)), (11, .val (.int .i64 i)), (16, .val (.int .i64 i)), (17, .val (.int .i64 q.1))])
    (fun q => [(0, .row 2 (.int .i64) (srt key (rng i))), (1, .row 2 (.int .i64) (if q.2.2.2 then q.2.1 ++ (i : Int) :: q.2.2.1 else q.2.1))])
    (fun q => q.1 ≤ i ∧ q.2.1 ++ q.2.2.1 = (srt key (rng i)).take q.1 ∧ (q.2.2.2 = false → q.2.2.1 = []) ∧ (∀ x ∈ q.2.1, ¬ key i < key x) ∧ (q.2.2.2 = true → ∃ y, q.2.2.1.head? = some y ∧ key i < key y)) (fun q => i - q.1) (0, [], [], false) ?_ ?_ ?_
  · refine ⟨[(0, 0), (1, 1)], rfl, rfl, ⟨⟨trivial, rfl⟩, rfl, rfl, rfl, rfl, rfl, rfl, ?_, rfl, trivial⟩, ⟨⟨rfl, rfl⟩, ⟨rfl, ?_⟩, trivial⟩, rfl⟩
    · exact vi hS
    · rfl
  · exact ⟨Nat.zero_le _, rfl, fun _ => rfl, by simp, by simp⟩
  rintro ⟨k, A, B, put⟩ ⟨h1, h2, h3, h4, h5⟩ Q2 hn2 hx2 hr2
  dsimp only at h1 h2 h3 h4 h5
  conv => whnf
  dsimp only
  refine ⟨fun h => ?_, fun h => ?_⟩
  case refine_2 =>
    have hki : k = i := Nat.le_antisymm h1 (ge_of_dec h)
    subst hki
    rw [List.take_of_length_le (Nat.le_of_eq hS)] at h2
    refine hx2 _ _ _ ?_
    conv => whnf
    refine ⟨fun hp => ?_, fun hp => ?_⟩
    · have hp : put = false := by simpa using hp
      subst hp
      have hB := h3 rfl
      subst hB
      have hfin := order_step h2 h4 (by simp)
      conv => whnf
      refine ⟨⟨?_, ?_⟩, ?_⟩
      · have := congrArg List.length h2
        simp only [List.append_nil, hS] at this
        simp [this]; omega
      · have := congrArg List.length h2
        simp only [List.append_nil, hS] at this
        simp [this]; omega
      conv => whnf
      refine hn _ _ ?_
      refine ⟨k + 1, ⟨[(2, 0)], rfl, rfl, ⟨⟨trivial, rfl⟩, rfl, rfl, ?_, trivial⟩, ⟨⟨rfl, ?_⟩, trivial⟩, rfl⟩, hlt, by omega⟩
      · exact vw (by omega) (by omega)
      · show _ = _
        rw [← hfin]; simp
    · have hp : put = true := by simpa using hp
      subst hp
      obtain ⟨y, hy, hky⟩ := h5 rfl
      have hfin := order_step h2 h4 (fun z hz => by rw [hy] at hz; cases hz; exact hky)
      conv => whnf
      refine hn _ _ ?_
      refine ⟨k + 1, ⟨[(1, 0)], rfl, rfl, ⟨⟨trivial, rfl⟩, rfl, rfl, ?_, trivial⟩, ⟨⟨rfl, ?_⟩, trivial⟩, rfl⟩, hlt, by omega⟩
      · exact vw (by omega) (by omega)
      · show _ = _
        rw [← hfin]; simp
  have hk : k < i := lt_of_dec h
  have hk' : k < (srt key (rng i)).length := by omega
  obtain ⟨x, hx0⟩ : ∃ x, x = (srt key (rng i)).getD k 0 := ⟨_, rfl⟩
  have hxm : x ∈ rng i := by
    rw [← (srt_perm (key := key) (rng i)).mem_iff, hx0]
    have : (srt key (rng i)).getD k 0 = (srt key (rng i))[k] := by simp [hk']
    rw [this]; exact List.getElem_mem hk'
  have hxl : inL l x := by have := rng_mem hxm; exact ⟨this.1, by omega⟩
  have hil : inL l (i : Int) := ⟨by omega, by simpa using hlt⟩
  have gx : (srt key (rng i))[((k : Nat) : Int).toNat]? = some x := by rw [hx0]; exact getZ hk'
  have htk : (srt key (rng i)).take (k + 1) = (srt key (rng i)).take k ++ [x] := by
    rw [List.take_succ_eq_append_getElem hk', hx0]; simp [hk']
  have e4 : IntKind.i64.wrap ((k : Int) + 1) = ((k + 1 : Nat) : Int) := wrap_nat' (by omega) (by omega)
  have lAB : A.length + B.length = k := by
    have := congrArg List.length h2
    rw [List.length_append, List.length_take] at this; omega
  conv => whnf
  refine ⟨by decide +kernel, ?_⟩
  conv => whnf
  refine ⟨fun hp => ?_, fun hp => ?_⟩
  · have hp : put = false := by simpa using hp
    subst hp
    have hB := h3 rfl
    subst hB
    conv => whnf
    refine idxZ hil ?_
    conv => whnf
    refine ⟨⟨by omega, by omega⟩, ?_⟩
    conv => whnf
    refine ⟨x, gx, ?_⟩
    conv => whnf
    refine idxZ hxl ?_
    conv => whnf
    refine ⟨fun hg => ?_, fun hg => ?_⟩
    · have hkey' := (hkey.gt _ _ hil hxl).1 hg
      conv => whnf
      refine ⟨⟨?_, ?_⟩, ?_⟩
      · simp; omega
      · simp; omega
      conv => whnf
      refine ⟨⟨by omega, by omega⟩, ?_⟩
      conv => whnf
      refine ⟨x, gx, ?_⟩
      conv => whnf
      refine ⟨⟨?_, ?_⟩, ?_⟩
      · simp; omega
      · simp; omega
      conv => whnf
      refine hn2 _ _ ?_
      refine ⟨(k + 1, A, [x], true), ⟨[(0, 0), (3, 1)], rfl, rfl, ⟨⟨trivial, rfl⟩, rfl, rfl, rfl, rfl, rfl, rfl, rfl, ?_, trivial⟩, ⟨⟨rfl, rfl⟩, ⟨rfl, ?_⟩, trivial⟩, rfl⟩, ⟨hk, ?_, fun h => (by cases h), h4, fun _ => ⟨x, rfl, hkey'⟩⟩, ?_⟩
      · exact vw (by omega) (by omega)
      · show _ = _
        simp
      · dsimp only; rw [htk, ← h2]; simp
      · dsimp only; omega
    · have hkey' : ¬ key i < key x := fun hc => by rw [(hkey.gt _ _ hil hxl).2 hc] at hg; cases hg
      conv => whnf
      refine ⟨⟨by omega, by omega⟩, ?_⟩
      conv => whnf
      refine ⟨x, gx, ?_⟩
      conv => whnf
      refine ⟨⟨?_, ?_⟩, ?_⟩
      · simp; omega
      · simp; omega
      conv => whnf
      refine hn2 _ _ ?_
      refine ⟨(k + 1, A ++ [x], [], false), ⟨[(0, 0), (2, 1)], rfl, rfl, ⟨⟨trivial, rfl⟩, rfl, rfl, rfl, rfl, rfl, rfl, rfl, ?_, trivial⟩, ⟨⟨rfl, rfl⟩, ⟨rfl, ?_⟩, trivial⟩, rfl⟩, ⟨hk, ?_, fun _ => rfl, ?_, fun h => (by cases h)⟩, ?_⟩
      · exact vw (by omega) (by omega)
      · show _ = _
        simp
      · dsimp only; rw [htk, ← h2]; simp
      · dsimp only
        intro z hz
        rw [List.mem_append, List.mem_singleton] at hz
        rcases hz with hz | rfl
        · exact h4 z hz
        · exact hkey'
      · dsimp only; omega
  · have hp : put = true := by simpa using hp
    subst hp
    obtain ⟨y, hy, hky⟩ := h5 rfl
    conv => whnf
    refine ⟨⟨by omega, by omega⟩, ?_⟩
    conv => whnf
    refine ⟨x, gx, ?_⟩
    conv => whnf
    refine ⟨⟨?_, ?_⟩, ?_⟩
    · simp; omega
    · simp; omega
    conv => whnf
    refine hn2 _ _ ?_
    refine ⟨(k + 1, A, B ++ [x], true), ⟨[(0, 0), (2, 1)], rfl, rfl, ⟨⟨trivial, rfl⟩, rfl, rfl, rfl, rfl, rfl, rfl, rfl, ?_, trivial⟩, ⟨⟨rfl, rfl⟩, ⟨rfl, ?_⟩, trivial⟩, rfl⟩, ⟨hk, ?_, fun h => (by cases h), h4, fun _ => ⟨y, ?_, hky⟩⟩, ?_⟩
    · exact vw (by omega) (by omega)
    · show _ = _
      simp
    · dsimp only; rw [htk, ← h2]; simp
    · dsimp only; rw [List.head?_append, hy]; rfl
    · dsimp only; omega
end Go.R
