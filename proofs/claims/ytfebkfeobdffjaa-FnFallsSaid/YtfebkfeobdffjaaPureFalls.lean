/- FnFalls: the plain law. -/
import Derived.Test.YtfebkfeobdffjaaL7
import Derived.Test.YtfebkfeobdffjaaW1
import Derived.Test.YtfebkfeobdffjaaV1
namespace Go.Proofs.Ytfebkfeobdffjaa
open Go
set_option linter.unusedSimpArgs false
set_option maxRecDepth 100000

theorem rise_small {m : Mate} (h : m.small) : (mateRise m).small := by
  unfold mateRise
  split
  · exact ⟨h.wants, h.runs, h.asks, h.gives⟩
  · exact ⟨by simp [Mate.zero], by simp [Mate.zero], by simp [Mate.zero], by simp [Mate.zero]⟩

theorem fall_small' {m : Mate} (b : Bool) (h : m.small) : (mateFall m b).small := by
  have h2 := h.runs
  unfold mateFall
  split
  · refine ⟨by simp [Mate.zero], ?_, by simp [Mate.zero], by simp [Mate.zero]⟩
    have := filterMap_len (fallRun b) m.runs
    simp only
    omega
  · exact ⟨by simp [Mate.zero], by simp [Mate.zero], by simp [Mate.zero], by simp [Mate.zero]⟩

def lives (b : Bool) (rs : List Run) : List Run := if b then [] else rs.filter alive

theorem lives_fall (m : Mate) (b : Bool) (h : mateValid m = true) : (mateFall m b).runs.filter alive = lives b m.runs := by
  unfold mateFall
  rw [if_pos h]
  unfold lives
  simp only
  cases b
  · simp only [Bool.false_eq_true, if_false]
    induction m.runs with
    | nil => rfl
    | cons r rs ih =>
      simp only [List.filterMap_cons, fallRun, Bool.false_eq_true, if_false, List.filter_cons]
      cases e : alive r
      · simpa using ih
      · simp only [if_true, List.filter_cons, e]
        rw [ih]
  · simp only [if_true]
    rw [List.filter_eq_nil_iff]
    intro r hr
    obtain ⟨r0, _, k2⟩ := List.mem_filterMap.1 hr
    unfold fallRun at k2
    split at k2
    · simp only [if_true] at k2
      split at k2
      · cases k2
      · rw [← Option.some.inj k2]; simp [alive, aliveS]
    · cases k2

def head171a (m f : Mate) (b : Bool) (acc : List Run) (i : Nat) : St := hd [(3, .ptr 0 0 0), (4, .bool b), (5, .ptr 1 0 0), (7, .ref 2), (8, .int .i64 i)] ([.box (cellsA 3 m), .box (cellsA 7 f), .arr 11 (acc.map Run.c)] ++ (arrsA m ++ arrsA f)) 0
def head171b (f : Mate) (ls acc : List Run) (i : Nat) : St := hd [(5, .ptr 0 0 0), (7, .ref 1), (9, .ref 2), (10, .int .i64 i)] ([.box (cellsA 3 f), .arr 11 (ls.map Run.c), .arr 11 (acc.map Run.c)] ++ arrsA f) 0

theorem falls_left (f : Mate) (ls : List Run) (hf : f.small) (he : f.runs.filter alive = ls) (s : St) (hs : s.norm [5, 7, 9, 10] = head171b f ls [] 0) :
    fin [CRes.tmp 2] 0 (X F [.code (.loop [5, 7, 9, 10] c171b1), .blk 2, .code (.seq (.region [⟨some 118, .mov (.tmp 7), none⟩, ⟨some 119, .mov (.tmp 9), none⟩, ⟨some 120, .call 31 [false, false] [.tmp 118, .tmp 119], none⟩, ⟨some 2, .mov (.tmp 120), none⟩] [2]) .ret)] (.normal, s)) = some (.bool true, []) := by
  have hr2 := hf.runs
  refine (loop_list f.runs (fun i (acc : List Run) => head171b f ls acc i) (fun i acc => acc.length ≤ i ∧ acc ++ (f.runs.drop i).filter alive = ls) (fun _ _ _ => (AV.bool true, ([] : List (Option AO)))) (fun acc Y hinv => ?_) (fun i a t acc Y ha hi ht hinv hY => ?_) [] hs ⟨by simp, by simpa using he⟩ ?_)
  · obtain ⟨h1, h2⟩ := hinv
    simp only [List.drop_length, List.filter_nil, List.append_nil] at h2
    subst h2
    have w := law31 acc (by omega)
    simp [head171b, c171b1, cellsA, arrsA, w]
  · obtain ⟨h1, h2⟩ := hinv
    have hw : IntKind.i64.wrap ((i : Int) + 1) = (i : Int) + 1 := i64w (by omega) (by omega)
    obtain ⟨_, hg⟩ := List.getElem?_eq_some_iff.1 ha
    have hiI : (i : Int) < f.runs.length := by omega
    have hd : f.runs.drop i = a :: f.runs.drop (i + 1) := by rw [List.drop_eq_getElem_cons hi, hg]
    rw [hd, List.filter_cons] at h2
    have l1 : (acc.length + 1) * 104 ≤ 140737488355328 := by omega
    have l2 : acc.length + 1 ≤ 140737488355328 := by omega
    cases e : alive a
    · have e' : aliveS a.state = false := e
      rw [e] at h2
      simp [head171b, c171b1, cellsA, arrsA, hiI, hi, hg, e']
      refine hY acc _ ⟨by omega, by simpa using h2⟩ ?_
      simp [head171b, cellsA, arrsA, hw]
    · have e' : aliveS a.state = true := e
      rw [e] at h2
      simp [head171b, c171b1, cellsA, arrsA, hiI, hi, hg, e', takeRows, rowsPlain, l1, l2]
      refine hY (acc ++ [a]) _ ⟨by simp; omega, by simpa using h2⟩ ?_
      simp [head171b, cellsA, arrsA, hw]
  · unfold big; omega

theorem falls_law (bs : List Int) (hwf : ListWf Byte bs) : F 171 [.sl .imm 1 (bs.map rowB)] [] = some (.bool true, []) := by
  obtain ⟨hlen, hby⟩ := hwf
  refine F_run fn171 rfl ?_
  by_cases hl : 1048576 < bs.length
  · have hlI : (1048576 : Int) < bs.length := by omega
    simp [c171, hlI]
  have hlI : ¬ (1048576 : Int) < bs.length := by omega
  obtain ⟨m, b, w37, hs⟩ := law37 bs (by omega) (fun x hx => hby x hx)
  have hfs := fall_small' b hs
  have hrs := rise_small hfs
  have v1 := law36 m b hs
  have v2 := law32 m b hs
  have v3 := law29 m hs
  have e1 : mateValid m = false → (mateFall m b).name = ⟨#[]⟩ ∧ (mateRise (mateFall m b)).name = ⟨#[]⟩ := fun h => by
    have e : mateFall m b = .zero := by simp [mateFall, h]
    rw [e]
    refine ⟨rfl, ?_⟩
    rw [mateRise, if_neg (by simp [zero_invalid])]
    rfl
  have e2 : mateValid m = true → mateValid (mateFall m b) = true ∧ mateValid (mateRise (mateFall m b)) = true ∧ (mateFall m b).up = false ∧ (mateRise (mateFall m b)).up = decide (m.clock < 1000000) := fun h => by
    have k := fall_valid b h
    refine ⟨k, rise_valid k, by simp [mateFall, h, Mate.zero], ?_⟩
    rw [mateRise, if_pos k]
    simp [mateFall, h, Mate.zero]
  have e3 := lives_fall m b
  generalize mateFall m b = f at *
  have v4 := law35 f hfs
  have v5 := law34 f hfs
  generalize mateRise f = r at *
  have v6 := law33 f hfs
  have v7 := law33 r hrs
  have v8 := law28 f hfs
  have v9 := law28 r hrs
  simp only [Mate.c] at w37 v1 v2 v3 v4 v5 v6 v7 v8 v9
  cases q : mateValid m
  · obtain ⟨n1, n2⟩ := e1 q
    obtain ⟨f1, f2, f3, f4, f5, f6, f7, f8, f9⟩ := f
    obtain ⟨r1, r2, r3, r4, r5, r6, r7, r8, r9⟩ := r
    simp only at n1 n2 v1 v2 v3 v4 v5 v6 v7 v8 v9
    subst n1 n2
    simp [c171, hlI, w37, v1, v2, v3, v4, v5, v6, v7, v8, v9, q]
  · obtain ⟨n1, n2, n3, n4⟩ := e2 q

    have hr1 := hs.runs
    have hr2 := hfs.runs
    obtain ⟨f1, f2, f3, f4, f5, f6, f7, f8, f9⟩ := f
    obtain ⟨r1, r2, r3, r4, r5, r6, r7, r8, r9⟩ := r
    simp only at n3 n4 v1 v2 v3 v4 v5 v6 v7 v8 v9 hr2 e3
    subst n3 n4
    have hz := fun x y : List Run => law31 x
    simp [c171, hlI, w37, v1, v2, v3, v4, v5, v6, v7, v8, v9, q, n1, n2]
    have tail : ∀ (ls : List Run) (s : St), List.filter alive f7 = ls → s.norm [5, 7, 9, 10] = head171b ⟨f1, false, f3, f4, f5, f6, f7, f8, f9⟩ ls [] 0 → _ := fun ls s h1 h2 => falls_left _ ls hfs h1 s h2
    refine (loop_list m.runs (fun i (acc : List Run) => head171a m ⟨f1, false, f3, f4, f5, f6, f7, f8, f9⟩ b acc i) (fun i acc => acc.length ≤ i ∧ acc ++ lives b (m.runs.drop i) = lives b m.runs) (fun _ t acc => (.bool true, [])) (fun acc Y hinv => ?_) (fun i a t acc Y ha hi ht hinv hY => ?_) [] ?_ ⟨by simp, by simp⟩ ?_).trans (by simp)
    · obtain ⟨h1, h2⟩ := hinv
      have h3 : acc = lives b m.runs := by
        rw [← h2]; cases b <;> simp [lives]
      simp [head171a, c171b0, cellsA, arrsA]
      refine tail acc _ ((e3 q).trans h3.symm) ?_
      simp [head171b, cellsA, arrsA]
    · obtain ⟨h1, h2⟩ := hinv
      have hw : IntKind.i64.wrap ((i : Int) + 1) = (i : Int) + 1 := i64w (by omega) (by omega)
      obtain ⟨_, hg⟩ := List.getElem?_eq_some_iff.1 ha
      have hiI : (i : Int) < m.runs.length := by omega
      cases b
      · have hd : m.runs.drop i = a :: m.runs.drop (i + 1) := by rw [List.drop_eq_getElem_cons hi, hg]
        simp only [lives, Bool.false_eq_true, if_false] at h2
        rw [hd, List.filter_cons] at h2
        have l1 : (acc.length + 1) * 104 ≤ 140737488355328 := by omega
        have l2 : acc.length + 1 ≤ 140737488355328 := by omega
        cases e : alive a
        · have e' : aliveS a.state = false := e
          rw [e] at h2
          simp [head171a, c171b0, cellsA, arrsA, hiI, hi, hg, e']
          refine hY acc _ ⟨by omega, by simpa [lives] using h2⟩ ?_
          simp [head171a, cellsA, arrsA, hw]
        · have e' : aliveS a.state = true := e
          rw [e] at h2
          simp [head171a, c171b0, cellsA, arrsA, hiI, hi, hg, e', takeRows, rowsPlain, l1, l2]
          refine hY (acc ++ [a]) _ ⟨by simp; omega, by simpa [lives] using h2⟩ ?_
          simp [head171a, cellsA, arrsA, hw]
      · have h3 : acc = lives true m.runs := by rw [← h2]; simp [lives]
        simp [head171a, c171b0, cellsA, arrsA, hiI]
        refine tail acc _ ((e3 q).trans h3.symm) ?_
        simp [head171b, cellsA, arrsA]
    · simp [head171a, cellsA, arrsA]
    · unfold big; omega
end Go.Proofs.Ytfebkfeobdffjaa
