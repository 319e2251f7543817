/- Draws: a mate that is spoilt. -/
import Derived.Test.YtfebkfeobdffjaaL5
namespace Go.Proofs.Ytfebkfeobdffjaa
open Go
set_option linter.unusedSimpArgs false
set_option maxRecDepth 100000

theorem law155 (bs : List Int) (p : Int) (m : Mate) (hb : Code bs) (h0 : 0 ≤ p) (hp : p ≤ 900000000) (hm : m.tame) (hclk : -10000000 ≤ m.clock ∧ m.clock ≤ 10000000) : Ends (F 155 [.ptr 0 0 0, .agg (m.c .bor)] [rdBox bs p]) (Drew bs p 20 fun x => ∃ m' : Mate, x = .agg (m'.c .own) ∧ m'.tameN 40) := by
  have w0 := law120 m (hm.small (by omega))
  have hl := hm.nruns
  have hl2 := hm.nasks
  have hl3 := hm.ngives
  obtain ⟨a1, a2, a3⟩ := law89 bs p m.runs.length hb h0 (by omega) (by omega)
  obtain ⟨b1, b2, b3⟩ := law89 bs (p + 1) 12 hb (by omega) (by omega) (by omega)
  rw [show p + 1 + 1 = p + 2 by omega] at b1
  have hu := hm.up (show 20 ≤ 40 by omega)
  obtain ⟨t1, t2, t3, t4, t5, t6, t7, t8, t9, t10, t11⟩ := hu
  simp only [rdBox] at a1 b1
  simp only [Mate.c] at w0
  refine F_ends fn155 rfl ?_
  by_cases k0 : pickV bs (p + 1) 12 = 0
  · obtain ⟨c1, c2, c3⟩ := law89 bs (p + 2) 2 hb (by omega) (by omega) (by omega)
    have c4 := c3 (by omega)
    simp only [rdBox] at c1
    simp [c155, rdBox, w0, a1, b1, k0, c1, c2, c4]
    exact ⟨_, p + 2 + 1, rfl, by omega, by omega, { m with name := selT [⟨#[]⟩, ⟨#[120, 32, 121]⟩] (pickV bs (p + 2) 2) }, by simp, selT_le (by simp; decide) _, t2, t3, t4, t5, t6, t7, t8, t9, t10, t11⟩
  by_cases k1 : pickV bs (p + 1) 12 = 1
  · simp [c155, rdBox, w0, a1, b1, k0, k1]
    exact ⟨_, p + 2, rfl, by omega, by omega, { m with up := !m.up }, by simp, t1, t2, t3, t4, t5, t6, t7, t8, t9, t10, t11⟩
  by_cases k2 : pickV bs (p + 1) 12 = 2
  · obtain ⟨c1, c2, c3⟩ := law89 bs (p + 2) 4 hb (by omega) (by omega) (by omega)
    have c4 := c3 (by omega)
    obtain ⟨t2a, t2b⟩ := hm.clock
    have u1 : IntKind.i64.wrap (m.clock + 9) = m.clock + 9 := i64w (by omega) (by omega)
    simp only [rdBox] at c1
    simp [c155, rdBox, w0, a1, b1, k0, k1, k2, c1, c2, c4, u1]
    exact ⟨_, p + 2 + 1, rfl, by omega, by omega, { m with clock := selI [-1, 0, m.clock + 9, 1000001] (pickV bs (p + 2) 4) }, by simp, t1, selI_tame (by simp [tame]; omega) _, t3, t4, t5, t6, t7, t8, t9, t10, t11⟩
  by_cases k3 : pickV bs (p + 1) 12 = 3
  · simp [c155, rdBox, w0, a1, b1, k0, k1, k2, k3]
    exact ⟨_, p + 2, rfl, by omega, by omega, { m with known := !m.known }, by simp, t1, t2, t3, t4, t5, t6, t7, t8, t9, t10, t11⟩
  by_cases k4 : pickV bs (p + 1) 12 = 4
  · obtain ⟨c1, c2, c3⟩ := law89 bs (p + 2) 3 hb (by omega) (by omega) (by omega)
    have c4 := c3 (by omega)
    simp only [rdBox] at c1
    simp [c155, rdBox, w0, a1, b1, k0, k1, k2, k3, k4, c1, c2, c4]
    exact ⟨_, p + 2 + 1, rfl, by omega, by omega, { m with seen := selI [-1, 1000000, 1000001] (pickV bs (p + 2) 3) }, by simp, t1, t2, selI_tame (by simp [tame]) _, t4, t5, t6, t7, t8, t9, t10, t11⟩
  by_cases k5 : pickV bs (p + 1) 12 = 5
  · rcases hW : m.wants with _ | ⟨w, ws⟩
    · rw [hW] at w0
      simp only [List.map_nil] at w0
      simp [c155, rdBox, w0, a1, b1, k0, k1, k2, k3, k4, k5, hW]
      exact ⟨_, p + 2, rfl, by omega, by omega, m, by simp [hW], t1, t2, t3, t4, t5, t6, t7, t8, t9, t10, t11⟩
    · rw [hW] at t4 t5 w0
      simp only [List.map_cons, Want.c] at w0
      obtain ⟨w', p', c1, c2, c3, c4⟩ := law144 bs (p + 2) w hb (by omega) (by omega) (t5 w List.mem_cons_self)
      simp only [rdBox, Want.c] at c1
      simp [c155, rdBox, w0, a1, b1, k0, k1, k2, k3, k4, k5, c1, hW]
      refine ⟨_, p', rfl, by omega, by omega, { m with wants := w' :: ws }, by simp, t1, t2, t3, by simpa using t4, fun x hx => ?_, t6, t7, t8, t9, t10, t11⟩
      rcases List.mem_cons.1 hx with rfl | hx
      · exact c4
      · exact t5 x (List.mem_cons_of_mem _ hx)
  by_cases k6 : pickV bs (p + 1) 12 = 6
  · by_cases hR : 0 < m.runs.length
    · have hRI : (0 : Int) < m.runs.length := by omega
      have a4 := a3 (by omega)
      obtain ⟨k, hk, hk2⟩ := toNat_cases (n := m.runs.length) a2 a4
      rw [hk] at a1
      obtain ⟨r, hrr⟩ : ∃ r, m.runs[k]? = some r := ⟨_, List.getElem?_eq_getElem hk2⟩
      obtain ⟨_, hg⟩ := List.getElem?_eq_some_iff.1 hrr
      obtain ⟨r', p', c1, c2, c3, c4⟩ := law88 bs (p + 2) r hb (by omega) (by omega) (t7 r (List.mem_of_getElem? hrr))
      simp only [rdBox, Run.c] at c1
      simp [c155, rdBox, w0, a1, b1, k0, k1, k2, k3, k4, k5, k6, hR, hRI, hk2, hg, c1]
      refine ⟨_, p', rfl, by omega, by omega, { m with runs := m.runs.set k r' }, by simp [List.map_set], t1, t2, t3, t4, t5, by simpa using t6, fun x hx => ?_, t8, t9, t10, t11⟩
      rcases List.mem_or_eq_of_mem_set hx with h | h
      · exact t7 x h
      · rw [h]; exact c4
    · have hRI : ¬ (0 : Int) < m.runs.length := by omega
      simp [c155, rdBox, w0, a1, b1, k0, k1, k2, k3, k4, k5, k6, hR, hRI]
      exact ⟨_, p + 2, rfl, by omega, by omega, m, by simp, t1, t2, t3, t4, t5, t6, t7, t8, t9, t10, t11⟩
  by_cases k7 : pickV bs (p + 1) 12 = 7
  · by_cases hR : 0 < m.runs.length
    · have hRI : (0 : Int) < m.runs.length := by omega
      have a4 := a3 (by omega)
      obtain ⟨k, hk, hk2⟩ := toNat_cases (n := m.runs.length) a2 a4
      rw [hk] at a1
      obtain ⟨r, hrr⟩ : ∃ r, m.runs[k]? = some r := ⟨_, List.getElem?_eq_getElem hk2⟩
      obtain ⟨_, hg⟩ := List.getElem?_eq_some_iff.1 hrr
      obtain ⟨r', p', c1, c2, c3, c4⟩ := law88 bs (p + 2) r hb (by omega) (by omega) (t7 r (List.mem_of_getElem? hrr))
      simp only [rdBox, Run.c] at c1
      simp [c155, rdBox, w0, a1, b1, k0, k1, k2, k3, k4, k5, k6, k7, hR, hRI, hk2, hg, c1]
      refine ⟨_, p', rfl, by omega, by omega, { m with runs := m.runs.set k r' }, by simp [List.map_set], t1, t2, t3, t4, t5, by simpa using t6, fun x hx => ?_, t8, t9, t10, t11⟩
      rcases List.mem_or_eq_of_mem_set hx with h | h
      · exact t7 x h
      · rw [h]; exact c4
    · have hRI : ¬ (0 : Int) < m.runs.length := by omega
      simp [c155, rdBox, w0, a1, b1, k0, k1, k2, k3, k4, k5, k6, k7, hR, hRI]
      exact ⟨_, p + 2, rfl, by omega, by omega, m, by simp, t1, t2, t3, t4, t5, t6, t7, t8, t9, t10, t11⟩
  by_cases k8 : pickV bs (p + 1) 12 = 8
  · obtain ⟨c1, c2, c3⟩ := law89 bs (p + 2) 4 hb (by omega) (by omega) (by omega)
    obtain ⟨d1, d2, d3⟩ := law89 bs (p + 3) 2 hb (by omega) (by omega) (by omega)
    obtain ⟨e1, e2, e3⟩ := law89 bs (p + 4) 3 hb (by omega) (by omega) (by omega)
    obtain ⟨f1, f2, f3⟩ := law89 bs (p + 5) 70 hb (by omega) (by omega) (by omega)
    rw [show p + 2 + 1 = p + 3 by omega] at c1
    rw [show p + 3 + 1 = p + 4 by omega] at d1
    rw [show p + 4 + 1 = p + 5 by omega] at e1
    rw [show p + 5 + 1 = p + 6 by omega] at f1
    have c4 := c3 (by omega)
    have d4 := d3 (by omega)
    have e4 := e3 (by omega)
    have f4 := f3 (by omega)
    have b3' : (m.asks.length + 1) * 48 ≤ 140737488355328 := by omega
    have b4' : m.asks.length + 1 ≤ 140737488355328 := by omega
    simp only [rdBox] at c1 d1 e1 f1
    simp [c155, rdBox, w0, a1, b1, k0, k1, k2, k3, k4, k5, k6, k7, k8, c1, c2, c4, d1, d2, d4, e1, f1, takeRows, rowsPlain, b3', b4']
    refine ⟨_, p + 6, rfl, by omega, by omega, { m with asks := m.asks ++ [⟨selT [⟨#[]⟩, ⟨#[118, 111, 108]⟩, ⟨#[122, 122]⟩, ⟨#[42]⟩] (pickV bs (p + 2) 4), selT [⟨#[]⟩, ⟨#[99]⟩] (pickV bs (p + 3) 2), pickV bs (p + 4) 3, pickV bs (p + 5) 70⟩] }, by simp, t1, t2, t3, t4, t5, t6, t7, by simp; omega, mem_snoc t9 ⟨selT_le (by simp; decide) _, selT_le (by simp; decide) _, pick_tame e2 e4 (by omega), pick_tame f2 f4 (by omega)⟩, t10, t11⟩
  by_cases k9 : pickV bs (p + 1) 12 = 9
  · obtain ⟨c1, c2, c3⟩ := law89 bs (p + 2) 3 hb (by omega) (by omega) (by omega)
    obtain ⟨d1, d2, d3⟩ := law89 bs (p + 3) 3 hb (by omega) (by omega) (by omega)
    obtain ⟨e1, e2, e3⟩ := law89 bs (p + 4) 5 hb (by omega) (by omega) (by omega)
    rw [show p + 2 + 1 = p + 3 by omega] at c1
    rw [show p + 3 + 1 = p + 4 by omega] at d1
    rw [show p + 4 + 1 = p + 5 by omega] at e1
    have c4 := c3 (by omega)
    have d4 := d3 (by omega)
    have e4 := e3 (by omega)
    have u1 : IntKind.i64.wrap (pickV bs (p + 3) 3 - 1) = pickV bs (p + 3) 3 - 1 := i64w (by omega) (by omega)
    have b3' : (m.gives.length + 1) * 48 ≤ 140737488355328 := by omega
    have b4' : m.gives.length + 1 ≤ 140737488355328 := by omega
    simp only [rdBox] at c1 d1 e1
    simp [c155, rdBox, w0, a1, b1, k0, k1, k2, k3, k4, k5, k6, k7, k8, k9, c1, c2, c4, d1, u1, e1, takeRows, rowsPlain, b3', b4']
    refine ⟨_, p + 5, rfl, by omega, by omega, { m with gives := m.gives ++ [⟨selT [⟨#[]⟩, ⟨#[118, 111, 108]⟩, ⟨#[122, 122]⟩] (pickV bs (p + 2) 3), ⟨#[99]⟩, pickV bs (p + 3) 3 - 1, pickV bs (p + 4) 5⟩] }, by simp, t1, t2, t3, t4, t5, t6, t7, t8, t9, by simp; omega, mem_snoc t11 ⟨selT_le (by simp; decide) _, (show (⟨#[99]⟩ : T).size ≤ 1000 by decide), ⟨by simp only; omega, by simp only; omega⟩, pick_tame e2 e4 (by omega)⟩⟩
  by_cases k10 : pickV bs (p + 1) 12 = 10
  · obtain ⟨c1, c2, c3⟩ := law89 bs (p + 2) 6 hb (by omega) (by omega) (by omega)
    rw [show p + 2 + 1 = p + 3 by omega] at c1
    have c4 := c3 (by omega)
    have u1 : IntKind.i64.wrap (1 + pickV bs (p + 2) 6) = 1 + pickV bs (p + 2) 6 := i64w (by omega) (by omega)
    have b3' : (m.runs.length + 1) * 104 ≤ 140737488355328 := by omega
    have b4' : m.runs.length + 1 ≤ 140737488355328 := by omega
    simp only [rdBox] at c1
    simp [c155, rdBox, w0, a1, b1, k0, k1, k2, k3, k4, k5, k6, k7, k8, k9, k10, c1, u1, takeRows, rowsPlain, b3', b4']
    refine ⟨_, p + 3, rfl, by omega, by omega, { m with runs := m.runs ++ [⟨⟨⟨#[122, 122]⟩, 1, ⟨#[]⟩, 0, 0, 0, 0⟩, 1 + pickV bs (p + 2) 6, 0, 0, 0⟩] }, by simp, t1, t2, t3, t4, t5, by simp; omega, mem_snoc t7 ⟨⟨(show (⟨#[122, 122]⟩ : T).size ≤ 1000 by decide), by simp [tame], Nat.zero_le _, by simp [tame], by simp [tame], by simp [tame], by simp [tame]⟩, ⟨by simp only; omega, by simp only; omega⟩, by simp [tame], by simp [tame], by simp [tame]⟩, t8, t9, t10, t11⟩
  · have b3' : m.asks.length * 48 ≤ 140737488355328 := by omega
    have b4' : m.asks.length ≤ 140737488355328 := by omega
    have hpl : rowsPlain (m.asks.map Ask.c) = true := by simp [rowsPlain]
    simp [c155, rdBox, w0, a1, b1, k0, k1, k2, k3, k4, k5, k6, k7, k8, k9, k10, takeRows, hpl, b3', b4']
    exact ⟨_, p + 2, rfl, by omega, by omega, { m with gives := m.asks }, by simp, t1, t2, t3, t4, t5, t6, t7, t8, t9, t8, t9⟩
end Go.Proofs.Ytfebkfeobdffjaa
