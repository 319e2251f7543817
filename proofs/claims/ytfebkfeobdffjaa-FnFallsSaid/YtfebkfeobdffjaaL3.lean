/- Draws: decimals, lists of wants and of runs. -/
import Derived.Test.YtfebkfeobdffjaaL2
import Derived.Test.YtfebkfeobdffjaaEnd
namespace Go.Proofs.Ytfebkfeobdffjaa
open Go
set_option linter.unusedSimpArgs false
set_option maxRecDepth 100000

def digit (d : Nat) : T := ⟨#[48 + UInt8.ofNat d]⟩
def dec (n : Nat) : T := if _h : n < 10 then digit n else dec (n / 10) ++ digit (n % 10)
termination_by n
decreasing_by omega

theorem u8w {d : Nat} (h : d < 10) : IntKind.u8.wrap (IntKind.i64.wrap (48 + (d : Int))) = 48 + (d : Int) := by
  rw [i64w (by omega) (by omega)]
  simp [IntKind.wrap, IntKind.signed, IntKind.bits]
  omega

theorem dec_size : ∀ (j n : Nat), n < 10 ^ (j + 1) → (dec n).size ≤ j + 1
  | 0, n, h => by
    rw [dec, dif_pos (by omega)]
    exact Nat.le_refl _
  | j + 1, n, h => by
    rw [dec]
    split
    · show 1 ≤ _; omega
    · rw [app_size]
      have := dec_size j (n / 10) (Nat.div_lt_of_lt_mul (by rw [Nat.pow_succ] at h; omega))
      have e : (digit (n % 10)).size = 1 := rfl
      omega

theorem law140 (n : Nat) (hn : n < 1000000000000000000) : F 140 [.int .i64 n] [] = some (.str (dec n), []) := by
  induction n using Nat.strongRecOn with
  | ind n ih =>
    refine F_run fn140 rfl ?_
    rw [dec]
    by_cases h : n < 10
    · have hI : (n : Int) < 10 := by omega
      have hu := u8w h
      have ht : (48 + (n : Int)).toNat = 48 + n := by omega
      simp [c140, h, hI, toBytes, hu, digit, ht]
    · have hI : ¬ (n : Int) < 10 := by omega
      have w := ih (n / 10) (by omega) (by omega)
      have hs := dec_size 18 (n / 10) (by omega)
      have hd := Nat.mod_lt n (show 0 < 10 by omega)
      obtain ⟨q, hq⟩ : ∃ q, q = n / 10 := ⟨_, rfl⟩
      obtain ⟨d, hdd⟩ : ∃ d, d = n % 10 := ⟨_, rfl⟩
      have hm : Int.tmod (n : Int) 10 = (d : Int) := by rw [Int.tmod_eq_emod_of_nonneg (by omega)]; omega
      have hm2 : (n : Int) % 10 = (d : Int) := by omega
      have hq2 : (n : Int) / 10 = (q : Int) := by omega
      have hq3 : IntKind.i64.wrap (q : Int) = (q : Int) := i64w (by omega) (by omega)
      rw [← hq] at w hs ⊢
      rw [← hdd] at hd ⊢
      have hu := u8w hd
      have ht : (48 + (d : Int)).toNat = 48 + d := by omega
      have hs2 : (dec q).size + (⟨#[48 + UInt8.ofNat d]⟩ : T).size ≤ 9223372036854775807 := by
        have : (⟨#[48 + UInt8.ofNat d]⟩ : T).size = 1 := rfl
        omega
      simp [c140, h, hI, toBytes, hm, hm2, hq2, hq3, hu, digit, ht, w, hs2]

/-- The name of the i-th copy. -/
theorem cName_size {i : Nat} (h : i < 1000) : ((⟨#[99]⟩ : T) ++ dec i).size ≤ 1000 := by
  rw [app_size]
  have := dec_size 3 i (by omega)
  have e : (⟨#[99]⟩ : T).size = 1 := rfl
  omega

/-! ### Lists of wants and of runs -/
def head145 (bs : List Int) (p : Int) (ws : List Want) (i : Nat) : St := hd [(0, .ptr 0 0 0), (3, .ref 1), (4, .int .i64 i)] [rdBox bs p, .arr 7 (ws.map Want.c)] 1

def Drew (bs : List Int) (p n : Int) (v : AV → Prop) (r : AV × List (Option AO)) : Prop := ∃ x p', r = (x, [some (rdBox bs p')]) ∧ p ≤ p' ∧ p' ≤ p + n ∧ v x

theorem law145 (bs : List Int) (p : Int) (hb : Code bs) (h0 : 0 ≤ p) (hp : p ≤ 1000000000) :
    Ends (F 145 [.ptr 0 0 0] [rdBox bs p]) (Drew bs p 28 fun x => ∃ ws : List Want, x = .sl .own 7 (ws.map Want.c) ∧ ws.length ≤ 4 ∧ ∀ w ∈ ws, Want.tame w) := by
  refine F_ends fn145 rfl ?_
  simp [c145]
  refine loop_end (σ := Nat × Int × List Want) (fun z => head145 bs z.2.1 z.2.2 z.1) (fun z => z.1 ≤ 4 ∧ p ≤ z.2.1 ∧ z.2.1 ≤ p + 7 * z.1 ∧ z.2.2.length ≤ z.1 ∧ ∀ w ∈ z.2.2, Want.tame w) (fun z => 4 - z.1) (fun z Y hinv hY => ?_) (0, p, []) ?_ ⟨by omega, by simp, by simp, by simp, by simp⟩ (by unfold big; simp)
  · obtain ⟨i, q, ws⟩ := z
    obtain ⟨h1, h2, h3, h4, h5⟩ := hinv
    simp only at h1 h2 h3 h4 h5 hY ⊢
    by_cases hi : i < 4
    · have hiI : (i : Int) < 4 := by omega
      have hw : IntKind.i64.wrap ((i : Int) + 1) = (i : Int) + 1 := i64w (by omega) (by omega)
      obtain ⟨a1, a2, a3⟩ := law89 bs q 2 hb (by omega) (by omega) (by omega)
      have d1 := law140 i (by omega)
      have d2 := cName_size (i := i) (by omega)
      have d3 : (⟨#[99]⟩ : T).size + (dec i).size ≤ 9223372036854775807 := by rw [app_size] at d2; omega
      have b1 := law87 bs (q + 1) (⟨#[99]⟩ ++ dec i) hb (by omega) (by omega)
      rw [show q + 1 + 6 = q + 7 by omega] at b1
      have b2 := drawWant_tame (p := q + 1) (copy := ⟨#[99]⟩ ++ dec i) hb (by omega) (by omega) d2
      generalize drawWant bs (q + 1) (⟨#[99]⟩ ++ dec i) = w at b1 b2
      have c1 := law7 (ws ++ [w]) (by unfold big; simp; omega)
      have e1 : ws.length * 72 ≤ 140737488355328 := by omega
      have e2 : ws.length ≤ 140737488355328 := by omega
      have e3 : (ws.length + 1) * 72 ≤ 140737488355328 := by omega
      have e4 : ws.length + 1 ≤ 140737488355328 := by omega
      simp only [rdBox, Want.c] at a1 b1
      simp at c1
      by_cases k0 : pickV bs q 2 = 0
      · cases k1 : wantsOk (ws ++ [w])
        · rw [k1] at c1
          simp [head145, rdBox, c145b0, hiI, a1, k0, d1, d3, b1, takeRows, rowsPlain, e1, e2, e3, e4, c1]
          refine hY (i + 1, q + 7, ws) _ ⟨by omega, by simp only; omega, by simp only; omega, by simp only; omega, h5⟩ (by simp only; omega) ?_
          simp [head145, rdBox, hw]
        · rw [k1] at c1
          simp [head145, rdBox, c145b0, hiI, a1, k0, d1, d3, b1, takeRows, rowsPlain, e1, e2, e3, e4, c1]
          refine hY (i + 1, q + 7, ws ++ [w]) _ ⟨by omega, by simp only; omega, by simp only; omega, by simp; omega, ?_⟩ (by simp only; omega) ?_
          · intro x hx
            rcases List.mem_append.1 hx with hx | hx
            · exact h5 x hx
            · rw [List.mem_singleton.1 hx]; exact b2
          · simp [head145, rdBox, hw]
      · simp [head145, rdBox, c145b0, hiI, a1, k0]
        refine hY (i + 1, q + 1, ws) _ ⟨by omega, by simp only; omega, by simp only; omega, by simp only; omega, h5⟩ (by simp only; omega) ?_
        simp [head145, rdBox, hw]
    · have hiI : ¬ (i : Int) < 4 := by omega
      simp [head145, rdBox, c145b0, hiI]
      exact ⟨_, q, rfl, by omega, by omega, ws, rfl, by omega, h5⟩
  · simp [head145, rdBox]
def head162 (bs : List Int) (p clock : Int) (ok : Bool) (rs : List Run) (i : Nat) : St := hd [(0, .ptr 0 0 0), (1, .int .i64 clock), (2, .bool ok), (7, .ref 1), (8, .int .i64 i)] [rdBox bs p, .arr 11 (rs.map Run.c)] 1

theorem law162 (bs : List Int) (p clock : Int) (ok : Bool) (hb : Code bs) (h0 : 0 ≤ p) (hp : p ≤ 1000000000) (hk : 0 ≤ clock ∧ clock ≤ 10000000) :
    Ends (F 162 [.ptr 0 0 0, .int .i64 clock, .bool ok] [rdBox bs p]) (Drew bs p 44 fun x => ∃ rs : List Run, x = .sl .own 11 (rs.map Run.c) ∧ rs.length ≤ 4 ∧ ∀ r ∈ rs, Run.tame r) := by
  refine F_ends fn162 rfl ?_
  simp [c162]
  refine loop_end (σ := Nat × Int × List Run) (fun z => head162 bs z.2.1 clock ok z.2.2 z.1) (fun z => z.1 ≤ 4 ∧ p ≤ z.2.1 ∧ z.2.1 ≤ p + 11 * z.1 ∧ z.2.2.length ≤ z.1 ∧ ∀ w ∈ z.2.2, Run.tame w) (fun z => 4 - z.1) (fun z Y hinv hY => ?_) (0, p, []) ?_ ⟨by omega, by simp, by simp, by simp, by simp⟩ (by unfold big; simp)
  · obtain ⟨i, q, rs⟩ := z
    obtain ⟨h1, h2, h3, h4, h5⟩ := hinv
    simp only at h1 h2 h3 h4 h5 hY ⊢
    by_cases hi : i < 4
    · have hiI : (i : Int) < 4 := by omega
      have hw : IntKind.i64.wrap ((i : Int) + 1) = (i : Int) + 1 := i64w (by omega) (by omega)
      obtain ⟨a1, a2, a3⟩ := law89 bs q 2 hb (by omega) (by omega) (by omega)
      have d1 := law140 i (by omega)
      have d2 := cName_size (i := i) (by omega)
      have d3 : (⟨#[99]⟩ : T).size + (dec i).size ≤ 9223372036854775807 := by rw [app_size] at d2; omega
      obtain ⟨x, q', b1, b2, b3, b4⟩ := law90 bs (q + 1) (⟨#[99]⟩ ++ dec i) clock hb (by omega) (by omega) d2 hk
      have e1 : rs.length * 104 ≤ 140737488355328 := by omega
      have e2 : rs.length ≤ 140737488355328 := by omega
      have e3 : (rs.length + 1) * 104 ≤ 140737488355328 := by omega
      have e4 : rs.length + 1 ≤ 140737488355328 := by omega
      have hall : ∀ y, Run.tame y → ∀ z ∈ rs ++ [y], Run.tame z := by
        intro y hy z hz
        rcases List.mem_append.1 hz with hz | hz
        · exact h5 z hz
        · rw [List.mem_singleton.1 hz]; exact hy
      simp only [rdBox, Run.c] at a1 b1
      by_cases k0 : pickV bs q 2 = 0
      · by_cases k1 : ok = true ∧ runOk x clock = false
        · obtain ⟨k1, k2⟩ := k1
          subst k1
          simp [head162, rdBox, c162b0, hiI, a1, k0, d1, d3, b1, takeRows, rowsPlain, e1, e2, e3, e4, k2]
          refine hY (i + 1, q', rs ++ [{ x with state := 2, left := 0 }]) _ ⟨by omega, by simp only; omega, by simp only; omega, by simp; omega, hall _ ⟨b4.want, ⟨by simp, by simp⟩, ⟨by simp, by simp⟩, b4.falls, b4.til⟩⟩ (by simp only; omega) ?_
          simp [head162, rdBox, hw]
        · cases ok
          · simp [head162, rdBox, c162b0, hiI, a1, k0, d1, d3, b1, takeRows, rowsPlain, e1, e2, e3, e4]
            refine hY (i + 1, q', rs ++ [x]) _ ⟨by omega, by simp only; omega, by simp only; omega, by simp; omega, hall _ b4⟩ (by simp only; omega) ?_
            simp [head162, rdBox, hw]
          · have k2 : runOk x clock = true := by
              cases h : runOk x clock
              · exact absurd ⟨rfl, h⟩ k1
              · rfl
            simp [head162, rdBox, c162b0, hiI, a1, k0, d1, d3, b1, takeRows, rowsPlain, e1, e2, e3, e4, k2]
            refine hY (i + 1, q', rs ++ [x]) _ ⟨by omega, by simp only; omega, by simp only; omega, by simp; omega, hall _ b4⟩ (by simp only; omega) ?_
            simp [head162, rdBox, hw]
      · simp [head162, rdBox, c162b0, hiI, a1, k0]
        refine hY (i + 1, q + 1, rs) _ ⟨by omega, by simp only; omega, by simp only; omega, by simp only; omega, h5⟩ (by simp only; omega) ?_
        simp [head162, rdBox, hw]
    · have hiI : ¬ (i : Int) < 4 := by omega
      simp [head162, rdBox, c162b0, hiI]
      exact ⟨_, q, rfl, by omega, by omega, rs, rfl, by omega, h5⟩
  · simp [head162, rdBox]
end Go.Proofs.Ytfebkfeobdffjaa
