/- Draws: any mate, and one that falls. -/
import Derived.Test.YtfebkfeobdffjaaL6
namespace Go.Proofs.Ytfebkfeobdffjaa
open Go
set_option linter.unusedSimpArgs false
set_option maxRecDepth 100000

/-- A mate's cells, its arrays being numbered from n on. -/
def cellsA (n : Nat) (m : Mate) : List AV := [.str m.name, .bool m.up, .int .i64 m.clock, .bool m.known, .int .i64 m.seen, .ref n, .ref (n + 1), .ref (n + 2), .ref (n + 3)]
def arrsA (m : Mate) : List AO := [.arr 7 (m.wants.map Want.c), .arr 11 (m.runs.map Run.c), .arr 4 (m.asks.map Ask.c), .arr 4 (m.gives.map Ask.c)]
def head116a (bs : List Int) (p d : Int) (m : Mate) (i : Nat) : St := hd [(2, .ptr 1 0 0), (3, .ptr 2 0 0), (4, .int .i64 d), (5, .int .i64 i)] (rdBox bs p :: .box zeroCells :: .box (cellsA 3 m) :: arrsA m) 1
def head116b (bs : List Int) (p : Int) (m : Mate) (i : Nat) : St := hd [(0, .ptr 0 0 0), (2, .ptr 1 0 0), (3, .ptr 2 0 0), (6, .int .i64 i)] (rdBox bs p :: .box zeroCells :: .box (cellsA 3 m) :: arrsA m) 1

theorem law116 (bs : List Int) (p : Int) (hb : Code bs) (h0 : 0 ≤ p) (hp : p ≤ 800000000) : Ends (F 116 [.ptr 0 0 0] [rdBox bs p]) (Drew bs p 200 fun x => ∃ m' : Mate, x = .agg (m'.c .own) ∧ m'.small) := by
  refine F_ends fn116 rfl ?_
  obtain ⟨_, c1, x1, p1, rfl, c2, c3, m, rfl, hm, hc1, hc2⟩ := law156 bs p hb h0 (by omega)
  obtain ⟨a1, a2, a3⟩ := law89 bs p1 24 hb (by omega) (by omega) (by omega)
  have hs := hm.small (by omega)
  have hQ : ∀ p' : Int, p ≤ p' → p' ≤ p + 200 → ∀ m' : Mate, m'.small → Drew bs p 200 (fun x => ∃ m' : Mate, x = .agg (m'.c .own) ∧ m'.small) (.agg (m'.c .own), [some (rdBox bs p')]) := fun p' h1 h2 m' h3 => ⟨_, p', rfl, h1, h2, m', rfl, h3⟩
  simp only [rdBox] at c1 a1
  simp only [Mate.c] at c1
  by_cases k0 : pickV bs p1 24 = 0 ∨ pickV bs p1 24 = 1
  · obtain ⟨_, d1, x2, p2, rfl, d2, d3, m2, rfl, hm2⟩ := law155 bs (p1 + 1) m hb (by omega) (by omega) hm ⟨by omega, by omega⟩
    have q := hQ p2 (by omega) (by omega) m2 (hm2.small (by omega))
    simp only [rdBox, Mate.c] at d1 q
    rcases k0 with k0 | k0 <;> simp [c116, rdBox, c1, a1, k0, d1] <;> simpa using q
  obtain ⟨k0, k1⟩ := not_or.1 k0
  by_cases k2 : pickV bs p1 24 = 2
  · obtain ⟨b1, b2, b3⟩ := law89 bs (p1 + 1) 6 hb (by omega) (by omega) (by omega)
    have b4 := b3 (by omega)
    rw [show p1 + 1 + 1 = p1 + 2 by omega] at b1
    simp only [rdBox] at b1
    have hl := hm.nruns
    generalize hd : IntKind.i64.wrap (IntKind.i64.wrap (1000000 - pickV bs (p1 + 1) 6) - m.clock) = d
    simp [c116, rdBox, c1, a1, k0, k1, k2, b1, hd]
    refine loop_end (K := fin [CRes.cell 2 9 true] 1) (σ := Nat × Mate) (fun z => head116a bs (p1 + 2) d z.2 z.1) (fun z => z.1 ≤ z.2.runs.length ∧ z.2.runs.length ≤ 20 ∧ z.2.small) (fun z => z.2.runs.length - z.1) (fun z Y hinv hY => ?_) (0, { m with clock := IntKind.i64.wrap (m.clock + d) }) ?_ ⟨Nat.zero_le _, hl, hs.wants, hs.runs, hs.asks, hs.gives⟩ (by unfold big; simp only; omega)
    · obtain ⟨i, x⟩ := z
      obtain ⟨g1, g2, g3⟩ := hinv
      simp only at g1 g2 g3 hY ⊢
      by_cases hi : i < x.runs.length
      · have hiI : (i : Int) < x.runs.length := by omega
        have hw : IntKind.i64.wrap ((i : Int) + 1) = (i : Int) + 1 := i64w (by omega) (by omega)
        obtain ⟨r, hrr⟩ : ∃ r, x.runs[i]? = some r := ⟨_, List.getElem?_eq_getElem hi⟩
        obtain ⟨_, hg⟩ := List.getElem?_eq_some_iff.1 hrr
        cases e : sEq r.want.hold ⟨#[]⟩
        · simp [head116a, rdBox, c116b0, cellsA, arrsA, hiI, hi, hg, e]
          refine hY (i + 1, { x with runs := x.runs.set i { r with til := IntKind.i64.wrap (r.til + d) } }) _ ⟨by simp; omega, by simp; omega, g3.wants, by simpa using g3.runs, g3.asks, g3.gives⟩ (by simp; omega) ?_
          simp [head116a, rdBox, cellsA, arrsA, zeroCells, hw, List.map_set]
        · simp [head116a, rdBox, c116b0, cellsA, arrsA, hiI, hi, hg, e]
          refine hY (i + 1, x) _ ⟨by simp only; omega, g2, g3⟩ (by simp only; omega) ?_
          simp [head116a, rdBox, cellsA, arrsA, zeroCells, hw]
      · have hiI : ¬ (i : Int) < x.runs.length := by omega
        have q := hQ (p1 + 2) (by omega) (by omega) x g3
        simp only [rdBox, Mate.c] at q
        simp [head116a, rdBox, c116b0, cellsA, arrsA, zeroCells, hiI]
        simpa using q
    · simp [head116a, rdBox, cellsA, arrsA, zeroCells]
  by_cases k3 : pickV bs p1 24 = 3
  · cases hu : m.up
    · have q := hQ (p1 + 1) (by omega) (by omega) m hs
      simp only [rdBox, Mate.c] at q
      simp [c116, rdBox, c1, a1, k0, k1, k2, k3, hu]
      simpa [hu] using q
    · have hl := hm.nruns
      simp [c116, rdBox, c1, a1, k0, k1, k2, k3, hu]
      refine loop_end (K := fin [CRes.cell 2 9 true] 1) (σ := Nat × Int × Mate) (fun z => head116b bs z.2.1 z.2.2 z.1) (fun z => z.1 ≤ z.2.2.runs.length ∧ z.2.2.runs.length ≤ 20 ∧ p1 + 1 ≤ z.2.1 ∧ z.2.1 ≤ p1 + 1 + z.2.2.runs.length ∧ z.2.2.small) (fun z => 20 - z.2.2.runs.length) (fun z Y hinv hY => ?_) (0, p1 + 1, m) ?_ ⟨Nat.zero_le _, hl, by simp, by simp only; omega, hs⟩ (by unfold big; simp only; omega)
      · obtain ⟨i, q, x⟩ := z
        obtain ⟨g1, g2, g4, g5, g3⟩ := hinv
        simp only at g1 g2 g3 g4 g5 hY ⊢
        obtain ⟨e1, e2, e3⟩ := law89 bs q 2 hb (by omega) (by omega) (by omega)
        have e4 := e3 (by omega)
        have u1 : IntKind.i64.wrap (20 - pickV bs q 2) = 20 - pickV bs q 2 := i64w (by omega) (by omega)
        simp only [rdBox] at e1
        by_cases hi : (x.runs.length : Int) < 20 - pickV bs q 2
        · have hw : IntKind.i64.wrap ((i : Int) + 1) = (i : Int) + 1 := i64w (by omega) (by omega)
          have hw2 : ∃ y, IntKind.u8.wrap (IntKind.i64.wrap (97 + (i : Int))) = y := ⟨_, rfl⟩
          obtain ⟨y, hw2⟩ := hw2
          have l1 : (x.runs.length + 1) * 104 ≤ 140737488355328 := by omega
          have l2 : x.runs.length + 1 ≤ 140737488355328 := by omega
          have l3 : (⟨#[100]⟩ : T).size + (⟨#[UInt8.ofNat y.toNat]⟩ : T).size ≤ 9223372036854775807 := by
            have : (⟨#[100]⟩ : T).size = 1 := rfl
            have : (⟨#[UInt8.ofNat y.toNat]⟩ : T).size = 1 := rfl
            omega
          simp [head116b, rdBox, c116b1, cellsA, arrsA, e1, u1, hi, hw2, toBytes, l1, l2, l3, takeRows, rowsPlain]
          refine hY (i + 1, q + 1, { x with runs := x.runs ++ [⟨⟨⟨#[100]⟩ ++ ⟨#[UInt8.ofNat y.toNat]⟩, 1, ⟨#[]⟩, 0, 0, 0, 2⟩, 4, 0, 0, 0⟩] }) _ ⟨by simp; omega, by simp; omega, by simp only; omega, by simp; omega, g3.wants, by simp; omega, g3.asks, g3.gives⟩ (by simp; omega) ?_
          simp [head116b, rdBox, cellsA, arrsA, zeroCells, hw]
        · have qq := hQ (q + 1) (by omega) (by omega) x g3
          simp only [rdBox, Mate.c] at qq
          simp [head116b, rdBox, c116b1, cellsA, arrsA, zeroCells, e1, u1, hi]
          simpa using qq
      · simp [head116b, rdBox, cellsA, arrsA, zeroCells, hu]
  · have q := hQ (p1 + 1) (by omega) (by omega) m hs
    simp only [rdBox, Mate.c] at q
    simp [c116, rdBox, c1, a1, k0, k1, k2, k3]
    simpa using q

theorem law37 (bs : List Int) (hl : bs.length ≤ 1000000000) (h : ∀ b ∈ bs, 0 ≤ b ∧ b ≤ 255) : ∃ (m : Mate) (b : Bool), F 37 [.sl .imm 1 (bs.map rowB)] [] = some (.tup [.agg (m.c .own), .bool b], []) ∧ m.small := by
  have hb := Code.take h
  have w0 := law91 bs hl
  generalize bs.take 2000 = cs at hb w0
  obtain ⟨_, c1, x1, p1, rfl, c2, c3, m, rfl, hm⟩ := law116 cs 0 hb (by omega) (by omega)
  obtain ⟨a1, a2, a3⟩ := law89 cs p1 2 hb (by omega) (by omega) (by omega)
  simp only [rdBox, Mate.c] at a1 c1
  refine ⟨m, pickV cs p1 2 == 0, F_run fn37 rfl ?_, hm⟩
  simp [c37, w0, c1, a1]
end Go.Proofs.Ytfebkfeobdffjaa
