/- Draws: wants and runs. -/
import Derived.Test.YtfebkfeobdffjaaL1
import Derived.Test.YtfebkfeobdffjaaA13
namespace Go.Proofs.Ytfebkfeobdffjaa
open Go
set_option linter.unusedSimpArgs false
set_option maxRecDepth 100000

/-- One of some. -/
def selT (l : List T) (i : Int) : T := l.getD i.toNat ⟨#[]⟩
def selI (l : List Int) (i : Int) : Int := l.getD i.toNat 0

theorem toNat_cases {i : Int} {n : Nat} (h0 : 0 ≤ i) (h : i < n) : ∃ k : Nat, i = k ∧ k < n := ⟨i.toNat, by omega, by omega⟩

@[simp] theorem selT2 (a b : T) {i : Int} (h : i.toNat < [[AV.str a], [.str b]].length) : [[AV.str a], [.str b]][i.toNat]'h = [.str (selT [a, b] i)] := by
  unfold selT
  generalize i.toNat = k at h ⊢
  rcases k with _ | _ | k <;> first | rfl | (simp at h; omega)
@[simp] theorem selI2 (a b : Int) {i : Int} (h : i.toNat < [[AV.int .i64 a], [.int .i64 b]].length) : [[AV.int .i64 a], [.int .i64 b]][i.toNat]'h = [.int .i64 (selI [a, b] i)] := by
  unfold selI
  generalize i.toNat = k at h ⊢
  rcases k with _ | _ | k <;> first | rfl | (simp at h; omega)
@[simp] theorem selT3 (a b c : T) {i : Int} (h : i.toNat < [[AV.str a], [.str b], [.str c]].length) : [[AV.str a], [.str b], [.str c]][i.toNat]'h = [.str (selT [a, b, c] i)] := by
  unfold selT
  generalize i.toNat = k at h ⊢
  rcases k with _ | _ | _ | k <;> first | rfl | (simp at h; omega)
@[simp] theorem selI3 (a b c : Int) {i : Int} (h : i.toNat < [[AV.int .i64 a], [.int .i64 b], [.int .i64 c]].length) : [[AV.int .i64 a], [.int .i64 b], [.int .i64 c]][i.toNat]'h = [.int .i64 (selI [a, b, c] i)] := by
  unfold selI
  generalize i.toNat = k at h ⊢
  rcases k with _ | _ | _ | k <;> first | rfl | (simp at h; omega)
@[simp] theorem selT4 (a b c d : T) {i : Int} (h : i.toNat < [[AV.str a], [.str b], [.str c], [.str d]].length) : [[AV.str a], [.str b], [.str c], [.str d]][i.toNat]'h = [.str (selT [a, b, c, d] i)] := by
  unfold selT
  generalize i.toNat = k at h ⊢
  rcases k with _ | _ | _ | _ | k <;> first | rfl | (simp at h; omega)
@[simp] theorem selI4 (a b c d : Int) {i : Int} (h : i.toNat < [[AV.int .i64 a], [.int .i64 b], [.int .i64 c], [.int .i64 d]].length) : [[AV.int .i64 a], [.int .i64 b], [.int .i64 c], [.int .i64 d]][i.toNat]'h = [.int .i64 (selI [a, b, c, d] i)] := by
  unfold selI
  generalize i.toNat = k at h ⊢
  rcases k with _ | _ | _ | _ | k <;> first | rfl | (simp at h; omega)
@[simp] theorem selT5 (a b c d e : T) {i : Int} (h : i.toNat < [[AV.str a], [.str b], [.str c], [.str d], [.str e]].length) : [[AV.str a], [.str b], [.str c], [.str d], [.str e]][i.toNat]'h = [.str (selT [a, b, c, d, e] i)] := by
  unfold selT
  generalize i.toNat = k at h ⊢
  rcases k with _ | _ | _ | _ | _ | k <;> first | rfl | (simp at h; omega)
@[simp] theorem selI5 (a b c d e : Int) {i : Int} (h : i.toNat < [[AV.int .i64 a], [.int .i64 b], [.int .i64 c], [.int .i64 d], [.int .i64 e]].length) : [[AV.int .i64 a], [.int .i64 b], [.int .i64 c], [.int .i64 d], [.int .i64 e]][i.toNat]'h = [.int .i64 (selI [a, b, c, d, e] i)] := by
  unfold selI
  generalize i.toNat = k at h ⊢
  rcases k with _ | _ | _ | _ | _ | k <;> first | rfl | (simp at h; omega)
@[simp] theorem selT6 (a b c d e f : T) {i : Int} (h : i.toNat < [[AV.str a], [.str b], [.str c], [.str d], [.str e], [.str f]].length) : [[AV.str a], [.str b], [.str c], [.str d], [.str e], [.str f]][i.toNat]'h = [.str (selT [a, b, c, d, e, f] i)] := by
  unfold selT
  generalize i.toNat = k at h ⊢
  rcases k with _ | _ | _ | _ | _ | _ | k <;> first | rfl | (simp at h; omega)
@[simp] theorem selI6 (a b c d e f : Int) {i : Int} (h : i.toNat < [[AV.int .i64 a], [.int .i64 b], [.int .i64 c], [.int .i64 d], [.int .i64 e], [.int .i64 f]].length) : [[AV.int .i64 a], [.int .i64 b], [.int .i64 c], [.int .i64 d], [.int .i64 e], [.int .i64 f]][i.toNat]'h = [.int .i64 (selI [a, b, c, d, e, f] i)] := by
  unfold selI
  generalize i.toNat = k at h ⊢
  rcases k with _ | _ | _ | _ | _ | _ | k <;> first | rfl | (simp at h; omega)
@[simp] theorem selT7 (a b c d e f g : T) {i : Int} (h : i.toNat < [[AV.str a], [.str b], [.str c], [.str d], [.str e], [.str f], [.str g]].length) : [[AV.str a], [.str b], [.str c], [.str d], [.str e], [.str f], [.str g]][i.toNat]'h = [.str (selT [a, b, c, d, e, f, g] i)] := by
  unfold selT
  generalize i.toNat = k at h ⊢
  rcases k with _ | _ | _ | _ | _ | _ | _ | k <;> first | rfl | (simp at h; omega)
@[simp] theorem selI7 (a b c d e f g : Int) {i : Int} (h : i.toNat < [[AV.int .i64 a], [.int .i64 b], [.int .i64 c], [.int .i64 d], [.int .i64 e], [.int .i64 f], [.int .i64 g]].length) : [[AV.int .i64 a], [.int .i64 b], [.int .i64 c], [.int .i64 d], [.int .i64 e], [.int .i64 f], [.int .i64 g]][i.toNat]'h = [.int .i64 (selI [a, b, c, d, e, f, g] i)] := by
  unfold selI
  generalize i.toNat = k at h ⊢
  rcases k with _ | _ | _ | _ | _ | _ | _ | k <;> first | rfl | (simp at h; omega)
@[simp] theorem selT8 (a b c d e f g u : T) {i : Int} (h : i.toNat < [[AV.str a], [.str b], [.str c], [.str d], [.str e], [.str f], [.str g], [.str u]].length) : [[AV.str a], [.str b], [.str c], [.str d], [.str e], [.str f], [.str g], [.str u]][i.toNat]'h = [.str (selT [a, b, c, d, e, f, g, u] i)] := by
  unfold selT
  generalize i.toNat = k at h ⊢
  rcases k with _ | _ | _ | _ | _ | _ | _ | _ | k <;> first | rfl | (simp at h; omega)
@[simp] theorem selI8 (a b c d e f g u : Int) {i : Int} (h : i.toNat < [[AV.int .i64 a], [.int .i64 b], [.int .i64 c], [.int .i64 d], [.int .i64 e], [.int .i64 f], [.int .i64 g], [.int .i64 u]].length) : [[AV.int .i64 a], [.int .i64 b], [.int .i64 c], [.int .i64 d], [.int .i64 e], [.int .i64 f], [.int .i64 g], [.int .i64 u]][i.toNat]'h = [.int .i64 (selI [a, b, c, d, e, f, g, u] i)] := by
  unfold selI
  generalize i.toNat = k at h ⊢
  rcases k with _ | _ | _ | _ | _ | _ | _ | _ | k <;> first | rfl | (simp at h; omega)

noncomputable def drawWant (bs : List Int) (p : Int) (copy : T) : Want :=
  ⟨copy, 1 + pickV bs p 3, selT [⟨#[]⟩, ⟨#[118, 111, 108]⟩, ⟨#[105, 112]⟩, ⟨#[118, 111, 108, 50]⟩] (pickV bs (p + 1) 4), pickV bs (p + 2) 4, pickV bs (p + 3) 3, selI [0, 0, 0, 1, 3, 8] (pickV bs (p + 4) 6), pickV bs (p + 5) 4⟩

theorem law87 (bs : List Int) (p : Int) (copy : T) (hb : Code bs) (h0 : 0 ≤ p) (hp : p ≤ 100000000000) : F 87 [.ptr 0 0 0, .str copy] [rdBox bs p] = some (.agg (drawWant bs p copy).c, [some (rdBox bs (p + 6))]) := by
  refine F_run fn87 rfl ?_
  obtain ⟨a1, a2, a3⟩ := law89 bs p 3 hb h0 (by omega) (by omega)
  obtain ⟨b1, b2, b3⟩ := law89 bs (p + 1) 4 hb (by omega) (by omega) (by omega)
  obtain ⟨c1, c2, c3⟩ := law89 bs (p + 2) 4 hb (by omega) (by omega) (by omega)
  obtain ⟨d1, d2, d3⟩ := law89 bs (p + 3) 3 hb (by omega) (by omega) (by omega)
  obtain ⟨e1, e2, e3⟩ := law89 bs (p + 4) 6 hb (by omega) (by omega) (by omega)
  obtain ⟨f1, f2, f3⟩ := law89 bs (p + 5) 4 hb (by omega) (by omega) (by omega)
  rw [show p + 1 + 1 = p + 2 by omega] at b1
  rw [show p + 2 + 1 = p + 3 by omega] at c1
  rw [show p + 3 + 1 = p + 4 by omega] at d1
  rw [show p + 4 + 1 = p + 5 by omega] at e1
  rw [show p + 5 + 1 = p + 6 by omega] at f1
  have hu : IntKind.i64.wrap (1 + pickV bs p 3) = 1 + pickV bs p 3 := i64w (by omega) (by have := a3 (by omega); omega)
  have b4 := b3 (by omega)
  have e4 := e3 (by omega)
  simp only [rdBox] at a1 b1 c1 d1 e1 f1 ⊢
  simp [c87, a1, b1, c1, d1, e1, f1, b2, b4, e2, e4, hu, drawWant]

/-! ### Drawn values are of moderate size -/
def tame (n : Int) : Prop := -100000000 ≤ n ∧ n ≤ 100000000
structure Want.tame (w : Want) : Prop where
  copy : w.copy.size ≤ 1000
  version : Ytfebkfeobdffjaa.tame w.version
  hold : w.hold.size ≤ 1000
  pull : Ytfebkfeobdffjaa.tame w.pull
  start : Ytfebkfeobdffjaa.tame w.start
  dies : Ytfebkfeobdffjaa.tame w.dies
  grace : Ytfebkfeobdffjaa.tame w.grace
structure Run.tame (r : Run) : Prop where
  want : r.want.tame
  state : Ytfebkfeobdffjaa.tame r.state
  left : Ytfebkfeobdffjaa.tame r.left
  falls : Ytfebkfeobdffjaa.tame r.falls
  til : Ytfebkfeobdffjaa.tame r.til

theorem selT_le {l : List T} {n : Nat} (h : ∀ x ∈ l, x.size ≤ n) (i : Int) : (selT l i).size ≤ n := by
  unfold selT
  rw [List.getD_eq_getElem?_getD]
  cases e : l[i.toNat]? with
  | none => exact Nat.zero_le _
  | some x => exact h x (List.mem_of_getElem? e)
theorem selI_tame {l : List Int} (h : ∀ x ∈ l, tame x) (i : Int) : tame (selI l i) := by
  unfold selI
  rw [List.getD_eq_getElem?_getD]
  cases e : l[i.toNat]? with
  | none => exact ⟨by simp, by simp⟩
  | some x => exact h x (List.mem_of_getElem? e)
theorem pick_tame {x n : Int} (h0 : 0 ≤ x) (h : x < n) (hn : n ≤ 100000000) : tame x := ⟨by omega, by omega⟩

theorem drawWant_tame {bs : List Int} {p : Int} {copy : T} (hb : Code bs) (h0 : 0 ≤ p) (hp : p ≤ 100000000000) (hc : copy.size ≤ 1000) : (drawWant bs p copy).tame := by
  obtain ⟨_, a2, a3⟩ := law89 bs p 3 hb h0 (by omega) (by omega)
  obtain ⟨_, c2, c3⟩ := law89 bs (p + 2) 4 hb (by omega) (by omega) (by omega)
  obtain ⟨_, d2, d3⟩ := law89 bs (p + 3) 3 hb (by omega) (by omega) (by omega)
  obtain ⟨_, f2, f3⟩ := law89 bs (p + 5) 4 hb (by omega) (by omega) (by omega)
  have a4 := a3 (by omega)
  have c4 := c3 (by omega)
  have d4 := d3 (by omega)
  have f4 := f3 (by omega)
  refine ⟨hc, ⟨by simp only [drawWant]; omega, by simp only [drawWant]; omega⟩, selT_le (by simp; decide) _, pick_tame c2 c4 (by omega), pick_tame d2 d4 (by omega), selI_tame (by simp [tame]) _, pick_tame f2 f4 (by omega)⟩

/-! ### A text many times -/
def headMany (s : T) (n : Int) (out : T) : St := hd [(0, .str s), (1, .int .i64 n), (5, .str out)] [] 0

def manyGo (n : Nat) (s out : T) : T := if _h : n = 0 then out else manyGo (n / 2) (s ++ s) (if n % 2 = 1 then out ++ s else out)
termination_by n
decreasing_by omega

theorem app_size (x y : T) : (x ++ y).size = x.size + y.size := ByteArray.size_append

theorem manyGo_size (n : Nat) (s out : T) : (manyGo n s out).size = out.size + s.size * n := by
  rw [manyGo]
  split
  · subst_vars; simp
  · rename_i h
    rw [manyGo_size (n / 2)]
    have e : n = 2 * (n / 2) + n % 2 := by omega
    have h2 : n % 2 < 2 := Nat.mod_lt _ (by omega)
    generalize n / 2 = q at *
    generalize n % 2 = r at *
    subst e
    rcases r with _ | _ | r
    · simp [app_size]
      rw [← Nat.mul_assoc, Nat.mul_two]
    · simp [app_size]
      rw [Nat.mul_add, ← Nat.mul_assoc, Nat.mul_two]
      omega
    · omega
termination_by n
decreasing_by omega

theorem law160 (s : T) (n : Nat) (hs : s.size ≤ 1000) (hn : n ≤ 1000000) : F 160 [.str s, .int .i64 n] [] = some (.str (manyGo n s ⟨#[]⟩), []) := by
  refine F_run fn160 rfl ?_
  simp [c160]
  refine (loop_by (σ := T × Nat × T) (fun x => headMany x.1 x.2.1 x.2.2) (fun x => x.2.1 ≤ 1000000 ∧ x.1.size * x.2.1 + x.2.2.size ≤ 1000000000) (fun x => x.2.1) (fun x => (.str (manyGo x.2.1 x.1 x.2.2), [])) (fun x Y hi hY => ?_) (s, n, ⟨#[]⟩) ?_ ⟨hn, ?_⟩ ?_).trans rfl
  · obtain ⟨s, n, out⟩ := x
    obtain ⟨h1, h2⟩ := hi
    simp only at h1 h2 hY ⊢
    rcases Nat.eq_zero_or_pos n with rfl | hp
    · have e : manyGo 0 s out = out := by rw [manyGo]; simp
      simp [headMany, c160b0, e]
    · have e : manyGo n s out = manyGo (n / 2) (s ++ s) (if n % 2 = 1 then out ++ s else out) := by rw [manyGo, dif_neg (by omega)]
      have hq : IntKind.i64.wrap ((n : Int) / 2) = ((n / 2 : Nat) : Int) := by rw [i64w (by omega) (by omega)]; omega
      have hsn : s.size ≤ s.size * n := Nat.le_mul_of_pos_right _ hp
      have g1 : s.size + s.size ≤ 9223372036854775807 := by omega
      have g2 : out.size + s.size ≤ 9223372036854775807 := by omega
      have hsz := manyGo_size n s out
      by_cases q : n % 2 = 1
      · have qi : ((n : Int).tmod 2 = 1) := by rw [Int.tmod_eq_emod_of_nonneg (by omega)]; omega
        have qi2 : ((n : Int) % 2 = 1) := by omega
        simp [headMany, c160b0, hp, e, q, qi, qi2, g1, g2]
        refine hY (s ++ s, n / 2, out ++ s) _ ⟨by simp only; omega, ?_⟩ (by simp only; omega) ?_
        · simp only [app_size]
          have e2 : n = 2 * (n / 2) + 1 := by omega
          generalize n / 2 = k at *
          subst e2
          have : s.size * (2 * k + 1) = (s.size + s.size) * k + s.size := by rw [Nat.mul_add, ← Nat.mul_assoc, Nat.mul_two, Nat.mul_one]
          omega
        · simp [headMany, hq]
      · have qi : ¬ ((n : Int).tmod 2 = 1) := by rw [Int.tmod_eq_emod_of_nonneg (by omega)]; omega
        have qi2 : ¬ ((n : Int) % 2 = 1) := by omega
        simp [headMany, c160b0, hp, e, q, qi, qi2, g1]
        refine hY (s ++ s, n / 2, out) _ ⟨by simp only; omega, ?_⟩ (by simp only; omega) ?_
        · simp only [app_size]
          have e2 : n = 2 * (n / 2) := by omega
          generalize n / 2 = k at *
          subst e2
          have : s.size * (2 * k) = (s.size + s.size) * k := by rw [← Nat.mul_assoc, Nat.mul_two]
          omega
        · simp [headMany, hq]
  · simp [headMany]
  · have : s.size * n ≤ 1000 * 1000000 := Nat.mul_le_mul hs hn
    show s.size * n + (⟨#[]⟩ : T).size ≤ 1000000000
    have h0 : (⟨#[]⟩ : T).size = 0 := rfl
    omega
  · unfold big; simp only; omega
theorem law144 (bs : List Int) (p : Int) (w : Want) (hb : Code bs) (h0 : 0 ≤ p) (hp : p ≤ 100000000000) (hw : w.tame) :
    ∃ w' p', F 144 [.ptr 0 0 0, .agg w.c] [rdBox bs p] = some (.agg w'.c, [some (rdBox bs p')]) ∧ p ≤ p' ∧ p' ≤ p + 3 ∧ Want.tame w' := by
  obtain ⟨a1, a2, a3⟩ := law89 bs p 7 hb h0 (by omega) (by omega)
  obtain ⟨b1, b2, b3⟩ := law89 bs (p + 1) 3 hb (by omega) (by omega) (by omega)
  rw [show p + 1 + 1 = p + 2 by omega] at b1
  have b4 := b3 (by omega)
  obtain ⟨hw1, hw2, hw3, hw4, hw5, hw6, hw7⟩ := hw
  simp only [rdBox] at a1 b1 ⊢
  by_cases k0 : pickV bs p 7 = 0
  · obtain ⟨c1, c2, c3⟩ := law89 bs (p + 1) 2 hb (by omega) (by omega) (by omega)
    obtain ⟨d1, d2, d3⟩ := law89 bs (p + 2) 3 hb (by omega) (by omega) (by omega)
    rw [show p + 1 + 1 = p + 2 by omega] at c1
    rw [show p + 2 + 1 = p + 3 by omega] at d1
    have c4 := c3 (by omega)
    have d4 := d3 (by omega)
    obtain ⟨n, hn, hn2⟩ := toNat_cases (i := 20 + pickV bs (p + 1) 2) (n := 100) (by omega) (by omega)
    have hu : IntKind.i64.wrap (20 + pickV bs (p + 1) 2) = n := by rw [i64w (by omega) (by omega)]; exact hn
    have e1 := law160 ⟨#[110]⟩ n (by decide) (by omega)
    have e2 := manyGo_size n ⟨#[110]⟩ ⟨#[]⟩
    have e3 : (manyGo n ⟨#[110]⟩ ⟨#[]⟩).size ≤ 1000 := by
      rw [e2]
      show 0 + 1 * n ≤ 1000
      omega
    refine ⟨{ w with copy := selT [⟨#[]⟩, ⟨#[120, 32, 121]⟩, manyGo n ⟨#[110]⟩ ⟨#[]⟩] (pickV bs (p + 2) 3) }, p + 3, F_run fn144 rfl ?_, by omega, by omega, ⟨selT_le ?_ _, hw2, hw3, hw4, hw5, hw6, hw7⟩⟩
    · simp only [rdBox] at c1 d1
      simp [c144, a1, k0, c1, d1, d2, d4, hu, e1]
    · intro x hx
      rcases List.mem_cons.1 hx with rfl | hx
      · decide
      rcases List.mem_cons.1 hx with rfl | hx
      · decide
      rw [List.mem_singleton.1 hx]
      exact e3
  by_cases k1 : pickV bs p 7 = 1
  · refine ⟨{ w with version := selI [0, 1000000, 1000001] (pickV bs (p + 1) 3) }, p + 2, F_run fn144 rfl ?_, by omega, by omega, ⟨hw1, selI_tame (by simp [tame]) _, hw3, hw4, hw5, hw6, hw7⟩⟩
    simp [c144, a1, k0, k1, b1, b2, b4]
  by_cases k2 : pickV bs p 7 = 2
  · refine ⟨{ w with hold := selT [⟨#[120, 32, 121]⟩, ⟨#[42]⟩, ⟨#[118, 111, 108]⟩] (pickV bs (p + 1) 3) }, p + 2, F_run fn144 rfl ?_, by omega, by omega, ⟨hw1, hw2, selT_le (by simp; decide) _, hw4, hw5, hw6, hw7⟩⟩
    simp [c144, a1, k0, k1, k2, b1, b2, b4]
  by_cases k3 : pickV bs p 7 = 3
  · refine ⟨{ w with pull := selI [-1, 100, 101] (pickV bs (p + 1) 3) }, p + 2, F_run fn144 rfl ?_, by omega, by omega, ⟨hw1, hw2, hw3, selI_tame (by simp [tame]) _, hw5, hw6, hw7⟩⟩
    simp [c144, a1, k0, k1, k2, k3, b1, b2, b4]
  by_cases k4 : pickV bs p 7 = 4
  · refine ⟨{ w with start := selI [-1, 100, 101] (pickV bs (p + 1) 3) }, p + 2, F_run fn144 rfl ?_, by omega, by omega, ⟨hw1, hw2, hw3, hw4, selI_tame (by simp [tame]) _, hw6, hw7⟩⟩
    simp [c144, a1, k0, k1, k2, k3, k4, b1, b2, b4]
  by_cases k5 : pickV bs p 7 = 5
  · refine ⟨{ w with dies := selI [-1, 100, 101] (pickV bs (p + 1) 3) }, p + 2, F_run fn144 rfl ?_, by omega, by omega, ⟨hw1, hw2, hw3, hw4, hw5, selI_tame (by simp [tame]) _, hw7⟩⟩
    simp [c144, a1, k0, k1, k2, k3, k4, k5, b1, b2, b4]
  · refine ⟨{ w with grace := selI [-1, 100, 101] (pickV bs (p + 1) 3) }, p + 2, F_run fn144 rfl ?_, by omega, by omega, ⟨hw1, hw2, hw3, hw4, hw5, hw6, selI_tame (by simp [tame]) _⟩⟩
    simp [c144, a1, k0, k1, k2, k3, k4, k5, b1, b2, b4]
theorem law90 (bs : List Int) (p : Int) (copy : T) (clock : Int) (hb : Code bs) (h0 : 0 ≤ p) (hp : p ≤ 10000000000) (hc : copy.size ≤ 1000) (hk : 0 ≤ clock ∧ clock ≤ 10000000) :
    ∃ r' p', F 90 [.ptr 0 0 0, .str copy, .int .i64 clock] [rdBox bs p] = some (.agg r'.c, [some (rdBox bs p')]) ∧ p ≤ p' ∧ p' ≤ p + 10 ∧ Run.tame r' := by
  have w0 := law87 bs p copy hb h0 (by omega)
  have w1 := drawWant_tame (p := p) hb h0 (by omega) hc
  generalize drawWant bs p copy = w at w0 w1
  obtain ⟨b1, b2, b3⟩ := law89 bs (p + 6) 6 hb (by omega) (by omega) (by omega)
  obtain ⟨c1, c2, c3⟩ := law89 bs (p + 7) 5 hb (by omega) (by omega) (by omega)
  obtain ⟨d1, d2, d3⟩ := law89 bs (p + 8) 6 hb (by omega) (by omega) (by omega)
  obtain ⟨e1, e2, e3⟩ := law89 bs (p + 9) 14 hb (by omega) (by omega) (by omega)
  rw [show p + 6 + 1 = p + 7 by omega] at b1
  rw [show p + 7 + 1 = p + 8 by omega] at c1
  rw [show p + 8 + 1 = p + 9 by omega] at d1
  rw [show p + 9 + 1 = p + 10 by omega] at e1
  have b4 := b3 (by omega)
  have c4 := c3 (by omega)
  have d4 := d3 (by omega)
  have e4 := e3 (by omega)
  generalize pickV bs (p + 6) 6 = x1 at *
  generalize pickV bs (p + 7) 5 = x2 at *
  generalize pickV bs (p + 8) 6 = x3 at *
  generalize pickV bs (p + 9) 14 = x4 at *
  have u1 : IntKind.i64.wrap (1 + x1) = 1 + x1 := i64w (by omega) (by omega)
  have u0 : IntKind.i64.wrap 2 = 2 := i64w (by omega) (by omega)
  have u2 : IntKind.i64.wrap (clock + x4) = clock + x4 := i64w (by omega) (by omega)
  have u3 : IntKind.i64.wrap (clock + x4 - 4) = clock + x4 - 4 := i64w (by omega) (by omega)
  simp only [rdBox, Want.c] at w0 b1 c1 d1 e1 ⊢
  have t1 : tame (1 + x1) := ⟨by omega, by omega⟩
  have t3 : tame x3 := ⟨by omega, by omega⟩
  have t2 : tame x2 := ⟨by omega, by omega⟩
  have t0 : tame 0 := ⟨by omega, by omega⟩
  have t4 : tame (clock + x4 - 4) := ⟨by omega, by omega⟩
  by_cases q1 : sEq w.hold ⟨#[]⟩ = true
  · by_cases q2 : 1 + x1 = 2
    · refine ⟨⟨w, 1 + x1, 0, x3, 0⟩, p + 9, F_run fn90 rfl ?_, by omega, by omega, ⟨w1, t1, t0, t3, t0⟩⟩
      simp [c90, w0, b1, c1, d1, u0, u1, q1, q2]
    · refine ⟨⟨w, 1 + x1, x2, x3, 0⟩, p + 9, F_run fn90 rfl ?_, by omega, by omega, ⟨w1, t1, t2, t3, t0⟩⟩
      simp [c90, w0, b1, c1, d1, u0, u1, q1, q2]
  · simp only [Bool.not_eq_true] at q1
    by_cases q3 : clock + x4 - 4 < 0
    · by_cases q2 : 1 + x1 = 2
      · refine ⟨⟨w, 1 + x1, 0, x3, 0⟩, p + 10, F_run fn90 rfl ?_, by omega, by omega, ⟨w1, t1, t0, t3, t0⟩⟩
        simp [c90, w0, b1, c1, d1, e1, u0, u1, u2, u3, q1, q2, q3]
      · refine ⟨⟨w, 1 + x1, x2, x3, 0⟩, p + 10, F_run fn90 rfl ?_, by omega, by omega, ⟨w1, t1, t2, t3, t0⟩⟩
        simp [c90, w0, b1, c1, d1, e1, u0, u1, u2, u3, q1, q2, q3]
    · by_cases q2 : 1 + x1 = 2
      · refine ⟨⟨w, 1 + x1, 0, x3, clock + x4 - 4⟩, p + 10, F_run fn90 rfl ?_, by omega, by omega, ⟨w1, t1, t0, t3, t4⟩⟩
        simp [c90, w0, b1, c1, d1, e1, u0, u1, u2, u3, q1, q2, q3]
      · refine ⟨⟨w, 1 + x1, x2, x3, clock + x4 - 4⟩, p + 10, F_run fn90 rfl ?_, by omega, by omega, ⟨w1, t1, t2, t3, t4⟩⟩
        simp [c90, w0, b1, c1, d1, e1, u0, u1, u2, u3, q1, q2, q3]

theorem law88 (bs : List Int) (p : Int) (r : Run) (hb : Code bs) (h0 : 0 ≤ p) (hp : p ≤ 10000000000) (hr : r.tame) :
    ∃ r' p', F 88 [.ptr 0 0 0, .agg r.c] [rdBox bs p] = some (.agg r'.c, [some (rdBox bs p')]) ∧ p ≤ p' ∧ p' ≤ p + 5 ∧ Run.tame r' := by
  obtain ⟨a1, a2, a3⟩ := law89 bs p 6 hb h0 (by omega) (by omega)
  obtain ⟨b1, b2, b3⟩ := law89 bs (p + 1) 3 hb (by omega) (by omega) (by omega)
  obtain ⟨c1, c2, c3⟩ := law89 bs (p + 1) 9 hb (by omega) (by omega) (by omega)
  obtain ⟨d1, d2, d3⟩ := law89 bs (p + 1) 5 hb (by omega) (by omega) (by omega)
  rw [show p + 1 + 1 = p + 2 by omega] at b1 c1 d1
  have b4 := b3 (by omega)
  have c4 := c3 (by omega)
  have d4 := d3 (by omega)
  obtain ⟨w', p', e1, e2, e3, e4⟩ := law144 bs (p + 1) r.want hb (by omega) (by omega) hr.want
  obtain ⟨hr1, hr2, hr3, hr4, hr5⟩ := hr
  simp only [rdBox, Want.c] at a1 b1 c1 d1 e1 ⊢
  by_cases k0 : pickV bs p 6 = 0
  · refine ⟨{ r with want := w' }, p', F_run fn88 rfl ?_, by omega, by omega, ⟨e4, hr2, hr3, hr4, hr5⟩⟩
    simp [c88, a1, k0, e1]
  by_cases k1 : pickV bs p 6 = 1
  · have hu : IntKind.i64.wrap (pickV bs (p + 1) 9 - 1) = pickV bs (p + 1) 9 - 1 := i64w (by omega) (by omega)
    refine ⟨{ r with state := pickV bs (p + 1) 9 - 1 }, p + 2, F_run fn88 rfl ?_, by omega, by omega, ⟨hr1, ⟨by simp only; omega, by simp only; omega⟩, hr3, hr4, hr5⟩⟩
    simp [c88, a1, k0, k1, c1, hu]
  by_cases k2 : pickV bs p 6 = 2
  · refine ⟨{ r with left := selI [-1, 100, 101] (pickV bs (p + 1) 3) }, p + 2, F_run fn88 rfl ?_, by omega, by omega, ⟨hr1, hr2, selI_tame (by simp [tame]) _, hr4, hr5⟩⟩
    simp [c88, a1, k0, k1, k2, b1, b2, b4]
  by_cases k3 : pickV bs p 6 = 3
  · refine ⟨{ r with falls := selI [-1, 1000, 1001] (pickV bs (p + 1) 3) }, p + 2, F_run fn88 rfl ?_, by omega, by omega, ⟨hr1, hr2, hr3, selI_tame (by simp [tame]) _, hr5⟩⟩
    simp [c88, a1, k0, k1, k2, k3, b1, b2, b4]
  by_cases k4 : pickV bs p 6 = 4
  · refine ⟨{ r with til := selI [-1, 0, 1, 1000016, 1000017] (pickV bs (p + 1) 5) }, p + 2, F_run fn88 rfl ?_, by omega, by omega, ⟨hr1, hr2, hr3, hr4, selI_tame (by simp [tame]) _⟩⟩
    simp [c88, a1, k0, k1, k2, k3, k4, d1, d2, d4]
  · obtain ⟨g1, g2, g3, g4, g5, g6, g7⟩ := hr1
    refine ⟨{ r with want := { r.want with hold := ⟨#[]⟩ } }, p + 1, F_run fn88 rfl ?_, by omega, by omega, ⟨⟨g1, g2, Nat.zero_le _, g4, g5, g6, g7⟩, hr2, hr3, hr4, hr5⟩⟩
    simp [c88, a1, k0, k1, k2, k3, k4]
theorem Code.take {bs : List Int} (h : ∀ b ∈ bs, 0 ≤ b ∧ b ≤ 255) : Code (bs.take 2000) := ⟨by rw [List.length_take]; omega, fun b hb => h b (List.mem_of_mem_take hb)⟩

def Want.zero : Want := ⟨⟨#[]⟩, 0, ⟨#[]⟩, 0, 0, 0, 0⟩
theorem Want.zero_tame : Want.zero.tame := ⟨Nat.zero_le _, ⟨by decide, by decide⟩, Nat.zero_le _, ⟨by decide, by decide⟩, ⟨by decide, by decide⟩, ⟨by decide, by decide⟩, ⟨by decide, by decide⟩⟩

end Go.Proofs.Ytfebkfeobdffjaa
