/- Draws: a valid mate. -/
import Derived.Test.YtfebkfeobdffjaaL4
namespace Go.Proofs.Ytfebkfeobdffjaa
open Go
set_option linter.unusedSimpArgs false
set_option maxRecDepth 100000

theorem fallRun_tame {b : Bool} {r r' : Run} (h : r.tame) (e : fallRun b r = some r') : r'.tame := by
  unfold fallRun at e
  split at e
  · split at e
    · split at e
      · cases e
      · obtain rfl := Option.some.inj e
        exact ⟨h.want, ⟨by simp, by simp⟩, ⟨by simp, by simp⟩, h.falls, h.til⟩
    · obtain rfl := Option.some.inj e
      exact h
  · cases e

theorem fall_tame {m : Mate} (b : Bool) (h : m.tame) : (mateFall m b).tame := by
  unfold mateFall
  split
  · refine ⟨h.name, h.clock, ⟨by simp [Mate.zero], by simp [Mate.zero]⟩, by simp [Mate.zero], by simp [Mate.zero], Nat.le_trans (List.length_filterMap_le _ _) h.nruns, ?_, by simp [Mate.zero], by simp [Mate.zero], by simp [Mate.zero], by simp [Mate.zero]⟩
    intro r hr
    obtain ⟨r0, h1, h2⟩ := List.mem_filterMap.1 hr
    exact fallRun_tame (h.runs r0 h1) h2
  · exact ⟨Nat.zero_le _, ⟨by simp [Mate.zero], by simp [Mate.zero]⟩, ⟨by simp [Mate.zero], by simp [Mate.zero]⟩, by simp [Mate.zero], by simp [Mate.zero], by simp [Mate.zero], by simp [Mate.zero], by simp [Mate.zero], by simp [Mate.zero], by simp [Mate.zero], by simp [Mate.zero]⟩
def head156a (bs : List Int) (p : Int) (m : Mate) (i : Nat) : St :=
  hd [(0, .ptr 0 0 0), (2, .ptr 1 0 0), (3, .ptr 2 0 0), (4, .int .i64 i)] (rdBox bs p :: .box zeroCells :: .box (cellsB 3 true { m with asks := [], gives := [] }) :: arrsB true { m with asks := [], gives := [] }) 1

theorem law156 (bs : List Int) (p : Int) (hb : Code bs) (h0 : 0 ≤ p) (hp : p ≤ 900000000) : Ends (F 156 [.ptr 0 0 0] [rdBox bs p]) (Drew bs p 120 fun x => ∃ m' : Mate, x = .agg (m'.c .own) ∧ m'.tame ∧ 0 ≤ m'.clock ∧ m'.clock ≤ 1000) := by
  refine F_ends fn156 rfl ?_
  obtain ⟨a1, a2, a3⟩ := law89 bs p 6 hb h0 (by omega) (by omega)
  obtain ⟨b1, b2, b3⟩ := law89 bs (p + 1) 60 hb (by omega) (by omega) (by omega)
  rw [show p + 1 + 1 = p + 2 by omega] at b1
  have b4 := b3 (by omega)
  obtain ⟨_, c1, x1, p1, rfl, c2, c3, rs, rfl, c4, c5⟩ := law162 bs (p + 2) (pickV bs (p + 1) 60) true hb (by omega) (by omega) ⟨b2, by omega⟩
  obtain ⟨d1, d2, d3⟩ := law89 bs p1 6 hb (by omega) (by omega) (by omega)
  generalize pickV bs (p + 1) 60 = clock at *
  simp only [rdBox] at a1 b1 c1 d1
  have t0 : tame clock := ⟨by omega, by omega⟩
  by_cases k0 : 0 < pickV bs p 6
  · by_cases k1 : 0 < pickV bs p1 6
    · obtain ⟨e1, e2, e3⟩ := law89 bs (p1 + 1) 4 hb (by omega) (by omega) (by omega)
      rw [show p1 + 1 + 1 = p1 + 2 by omega] at e1
      have e4 := e3 (by omega)
      obtain ⟨_, f1, x2, p2, rfl, f2, f3, ws, rfl, f4, f5⟩ := law145 bs (p1 + 2) hb (by omega) (by omega)
      generalize pickV bs (p1 + 1) 4 = seen at *
      have t1 : tame seen := ⟨by omega, by omega⟩
      simp only [rdBox] at e1 f1
      have w161 := fun n => law161 ws n (by unfold big; omega)
      simp [c156, rdBox, a1, b1, c1, d1, e1, f1, k0, k1]
      refine loop_end (K := fin [CRes.cell 2 9 true] 1) (σ := Nat × Int × List Run) (fun z => head156a bs z.2.1 ⟨⟨#[97]⟩, true, clock, true, seen, ws, z.2.2, [], []⟩ z.1)
        (fun z => z.1 ≤ rs.length ∧ p2 ≤ z.2.1 ∧ z.2.1 ≤ p2 + z.1 ∧ z.2.2.length = rs.length ∧ ∀ r ∈ z.2.2, Run.tame r) (fun z => rs.length - z.1) (fun z Y hinv hY => ?_) (0, p2, rs) ?_ ⟨by simp, by simp, by simp, rfl, c5⟩ (by unfold big; simp only; omega)
      · obtain ⟨i, q, xs⟩ := z
        obtain ⟨g1, g2, g3, g4, g5⟩ := hinv
        simp only at g1 g2 g3 g4 g5 hY ⊢
        by_cases hi : i < xs.length
        · have hiI : (i : Int) < xs.length := by omega
          have hw : IntKind.i64.wrap ((i : Int) + 1) = (i : Int) + 1 := i64w (by omega) (by omega)
          obtain ⟨r, hrr⟩ : ∃ r, xs[i]? = some r := ⟨_, List.getElem?_eq_getElem hi⟩
          obtain ⟨_, hg⟩ := List.getElem?_eq_some_iff.1 hrr
          have hrt := g5 r (List.mem_of_getElem? hrr)
          obtain ⟨u1, u2, u3⟩ := law89 bs q 4 hb (by omega) (by omega) (by omega)
          have wv := w161 r.want.copy
          have wt := findW_tame f5 r.want.copy
          generalize (findW ws r.want.copy).getD .zero = w at wv wt
          generalize (findW ws r.want.copy).isSome = there at wv
          simp only [rdBox] at u1
          simp only [Want.c] at wv
          have hset : ∀ y : Run, y.tame → ∀ z ∈ xs.set i y, Run.tame z := by
            intro y hy z hz
            rcases List.mem_or_eq_of_mem_set hz with h | h
            · exact g5 z h
            · rw [h]; exact hy
          cases there
          · simp [head156a, rdBox, cellsB, arrsB, wn, an, c156b0, hiI, hi, hg, wv]
            refine hY (i + 1, q, xs) _ ⟨by simp only; omega, by simp only; omega, by simp only; omega, g4, g5⟩ (by simp only; omega) ?_
            simp [head156a, rdBox, cellsB, zeroCells, arrsB, wn, an, hw]
          · by_cases v1 : 0 < pickV bs q 4
            · cases v2 : sEq w.hold ⟨#[]⟩
              · cases v3 : runOk ⟨w, r.state, r.left, r.falls, r.til⟩ clock
                · simp [head156a, rdBox, cellsB, arrsB, wn, an, c156b0, hiI, hi, hg, wv, u1, v1, v2, v3]
                  refine hY (i + 1, q + 1, xs.set i ⟨w, 2, 0, r.falls, r.til⟩) _ ⟨by simp only; omega, by simp only; omega, by simp only; omega, by simp [g4], hset _ ⟨wt, ⟨by simp, by simp⟩, ⟨by simp, by simp⟩, hrt.falls, hrt.til⟩⟩ (by simp only; omega) ?_
                  simp [head156a, rdBox, cellsB, zeroCells, arrsB, wn, an, hw, List.map_set]
                · simp [head156a, rdBox, cellsB, arrsB, wn, an, c156b0, hiI, hi, hg, wv, u1, v1, v2, v3]
                  refine hY (i + 1, q + 1, xs.set i ⟨w, r.state, r.left, r.falls, r.til⟩) _ ⟨by simp only; omega, by simp only; omega, by simp only; omega, by simp [g4], hset _ ⟨wt, hrt.state, hrt.left, hrt.falls, hrt.til⟩⟩ (by simp only; omega) ?_
                  simp [head156a, rdBox, cellsB, zeroCells, arrsB, wn, an, hw, List.map_set]
              · cases v3 : runOk ⟨w, r.state, r.left, r.falls, 0⟩ clock
                · simp [head156a, rdBox, cellsB, arrsB, wn, an, c156b0, hiI, hi, hg, wv, u1, v1, v2, v3]
                  refine hY (i + 1, q + 1, xs.set i ⟨w, 2, 0, r.falls, 0⟩) _ ⟨by simp only; omega, by simp only; omega, by simp only; omega, by simp [g4], hset _ ⟨wt, ⟨by simp, by simp⟩, ⟨by simp, by simp⟩, hrt.falls, ⟨by simp, by simp⟩⟩⟩ (by simp only; omega) ?_
                  simp [head156a, rdBox, cellsB, zeroCells, arrsB, wn, an, hw, List.map_set]
                · simp [head156a, rdBox, cellsB, arrsB, wn, an, c156b0, hiI, hi, hg, wv, u1, v1, v2, v3]
                  refine hY (i + 1, q + 1, xs.set i ⟨w, r.state, r.left, r.falls, 0⟩) _ ⟨by simp only; omega, by simp only; omega, by simp only; omega, by simp [g4], hset _ ⟨wt, hrt.state, hrt.left, hrt.falls, ⟨by simp, by simp⟩⟩⟩ (by simp only; omega) ?_
                  simp [head156a, rdBox, cellsB, zeroCells, arrsB, wn, an, hw, List.map_set]
            · simp [head156a, rdBox, cellsB, arrsB, wn, an, c156b0, hiI, hi, hg, wv, u1, v1]
              refine hY (i + 1, q + 1, xs) _ ⟨by simp only; omega, by simp only; omega, by simp only; omega, g4, g5⟩ (by simp only; omega) ?_
              simp [head156a, rdBox, cellsB, zeroCells, arrsB, wn, an, hw]
        · have hiI : ¬ (i : Int) < xs.length := by omega
          simp [head156a, rdBox, cellsB, arrsB, wn, an, c156b0, hiI]
          refine (draw_asks bs q true ⟨⟨#[97]⟩, true, clock, true, seen, ws, xs, [], []⟩ hb (by omega) (by omega) ⟨(show (⟨#[97]⟩ : T).size ≤ 1000 by decide), t0, t1, by simp only; omega, f5, by simp only; omega, g5, by simp, by simp, by simp, by simp⟩ (fun h => by cases h) rfl rfl (by simp only; omega) ⟨b2, by simp only; omega⟩ _ ?_).mono ?_
          · simp [head156b, rdBox, cellsB, zeroCells, arrsB, wn, an]
          · rintro r ⟨x, p', h1, h2, h3, h4⟩
            exact ⟨x, p', h1, by omega, by omega, h4⟩
      · simp [head156a, rdBox, cellsB, zeroCells, arrsB, wn, an]
    · simp [c156, rdBox, a1, b1, c1, d1, k0, k1]
      refine (draw_asks bs (p1 + 1) false ⟨⟨#[97]⟩, true, clock, false, 0, [], rs, [], []⟩ hb (by omega) (by omega) ⟨(show (⟨#[97]⟩ : T).size ≤ 1000 by decide), t0, ⟨by simp, by simp⟩, by simp, by simp, by simp only; omega, c5, by simp, by simp, by simp, by simp⟩ (fun _ => rfl) rfl rfl c4 ⟨b2, by simp only; omega⟩ _ ?_).mono ?_
      · simp [head156b, rdBox, cellsB, zeroCells, arrsB, wn, an]
      · rintro r ⟨x, p', h1, h2, h3, h4⟩
        exact ⟨x, p', h1, by omega, by omega, h4⟩
  · obtain ⟨e1, e2, e3⟩ := law89 bs p1 3 hb (by omega) (by omega) (by omega)
    have hmt : Mate.tame ⟨⟨#[97]⟩, false, clock, false, 0, [], rs, [], []⟩ := ⟨(show (⟨#[97]⟩ : T).size ≤ 1000 by decide), t0, ⟨by simp, by simp⟩, by simp, by simp, by simp only; omega, c5, by simp, by simp, by simp, by simp⟩
    have w := law32 _ (pickV bs p1 3 == 0) (hmt.small (by omega))
    have wt := fall_tame (pickV bs p1 3 == 0) hmt
    have wc : 0 ≤ (mateFall ⟨⟨#[97]⟩, false, clock, false, 0, [], rs, [], []⟩ (pickV bs p1 3 == 0)).clock ∧ (mateFall ⟨⟨#[97]⟩, false, clock, false, 0, [], rs, [], []⟩ (pickV bs p1 3 == 0)).clock ≤ 1000 := by
      unfold mateFall
      split
      · exact ⟨b2, by simp only; omega⟩
      · simp [Mate.zero]
    generalize mateFall ⟨⟨#[97]⟩, false, clock, false, 0, [], rs, [], []⟩ (pickV bs p1 3 == 0) = g at w wt wc
    simp only [rdBox] at e1
    simp at w
    simp [c156, rdBox, a1, b1, c1, k0, e1, w]
    exact ⟨_, p1 + 1, rfl, by omega, by omega, g, by simp, wt, wc⟩
end Go.Proofs.Ytfebkfeobdffjaa
