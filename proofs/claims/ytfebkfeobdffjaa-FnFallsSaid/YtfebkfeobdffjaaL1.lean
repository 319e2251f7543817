/- Draws: the reader of the code. -/
import Derived.Test.YtfebkfeobdffjaaTy
import Derived.Test.YtfebkfeobdffjaaReadT
namespace Go.Proofs.Ytfebkfeobdffjaa
open Go
set_option linter.unusedSimpArgs false
set_option maxRecDepth 100000

structure Code (bs : List Int) : Prop where
  len : bs.length ≤ 2000
  byte : ∀ b ∈ bs, 0 ≤ b ∧ b ≤ 255

/-- The reader's variable. -/
def rdBox (bs : List Int) (p : Int) : AO := .box [.sl .imm 1 (bs.map rowB), .int .i64 p]

noncomputable def pickV (bs : List Int) (p n : Int) : Int := match F 89 [.ptr 0 0 0, .int .i64 n] [rdBox bs p] with
  | some (.int .i64 r, _) => r
  | _ => 0

theorem xor_le {a b : Int} (h1 : 0 ≤ a) (h2 : a < 9223372036854775808) (h3 : 0 ≤ b) (h4 : b < 9223372036854775808) :
    ∃ r : Int, IntKind.i64.wrap (((a % 2 ^ IntKind.i64.bits).toNat ^^^ (b % 2 ^ IntKind.i64.bits).toNat : Nat) : Int) = r ∧ 0 ≤ r ∧ r < 9223372036854775808 := by
  obtain ⟨x, rfl⟩ : ∃ x : Nat, a = x := ⟨a.toNat, by omega⟩
  obtain ⟨y, rfl⟩ : ∃ y : Nat, b = y := ⟨b.toNat, by omega⟩
  have e1 : ((x : Int) % 2 ^ IntKind.i64.bits).toNat = x := by simp [IntKind.bits]; omega
  have e2 : ((y : Int) % 2 ^ IntKind.i64.bits).toNat = y := by simp [IntKind.bits]; omega
  have h := Nat.xor_lt_two_pow (x := x) (y := y) (n := 63) (by omega) (by omega)
  refine ⟨((x ^^^ y : Nat) : Int), ?_, by omega, by omega⟩
  rw [e1, e2]
  exact i64w (by omega) (by omega)

theorem tmod_in {x n : Int} (hx : 0 ≤ x) (hn : 1 ≤ n) : 0 ≤ x.tmod n ∧ x.tmod n < n := by
  rw [Int.tmod_eq_emod_of_nonneg hx]
  exact ⟨Int.emod_nonneg _ (by omega), Int.emod_lt_of_pos _ (by omega)⟩

theorem law89' (bs : List Int) (p n : Int) (hb : Code bs) (h0 : 0 ≤ p) (hp : p ≤ 1000000000000) (hn : n ≤ 1000000000) : ∃ r, F 89 [.ptr 0 0 0, .int .i64 n] [rdBox bs p] = some (.int .i64 r, [some (rdBox bs (p + 1))]) ∧ 0 ≤ r ∧ (1 ≤ n → r < n) := by
  have u1 : IntKind.i64.wrap (p + 1) = p + 1 := i64w (by omega) (by omega)
  have u2 : IntKind.i64.wrap p = p := i64w (by omega) (by omega)
  have hl := hb.len
  by_cases c1 : n < 1
  · refine ⟨0, F_run fn89 rfl ?_, by omega, by omega⟩
    simp [c89, rdBox, u1, c1]
  by_cases c2 : bs = []
  · subst c2
    refine ⟨0, F_run fn89 rfl ?_, by omega, by omega⟩
    simp [c89, rdBox, u1, c1]
  have hpos : 0 < bs.length := List.length_pos_iff.2 c2
  have c2' : ¬ ((bs.length : Int) = 0) := by omega
  have c1n : ¬ (n = 0) := by omega
  by_cases c3 : p < bs.length
  · obtain ⟨b, hbb⟩ : ∃ b, bs[p.toNat]? = some b := ⟨_, List.getElem?_eq_getElem (by omega)⟩
    obtain ⟨_, hg⟩ := List.getElem?_eq_some_iff.1 hbb
    have hr := hb.byte b (List.mem_of_getElem? hbb)
    have u3 : IntKind.i64.wrap b = b := i64w (by omega) (by omega)
    have ht := tmod_in (x := b) (n := n) (by omega) (by omega)
    have hlt : p.toNat < bs.length := by omega
    refine ⟨b.tmod n, F_run fn89 rfl ?_, ht.1, fun _ => ht.2⟩
    simp [c89, rdBox, u1, u2, c1, c2', c2, c3, c1n, hlt, hg, h0, u3]
  · obtain ⟨i1, hi1⟩ : ∃ i, i = p.tmod bs.length := ⟨_, rfl⟩
    obtain ⟨i2, hi2⟩ : ∃ i, i = (p * 7 + 3).tmod bs.length := ⟨_, rfl⟩
    have k1 := tmod_in (x := p) (n := bs.length) h0 (by omega)
    have k2 := tmod_in (x := p * 7 + 3) (n := bs.length) (by omega) (by omega)
    rw [← hi1] at k1
    rw [← hi2] at k2
    obtain ⟨b1, hb1⟩ : ∃ b, bs[i1.toNat]? = some b := ⟨_, List.getElem?_eq_getElem (by omega)⟩
    obtain ⟨b2, hb2⟩ : ∃ b, bs[i2.toNat]? = some b := ⟨_, List.getElem?_eq_getElem (by omega)⟩
    obtain ⟨_, hg1⟩ := List.getElem?_eq_some_iff.1 hb1
    obtain ⟨_, hg2⟩ := List.getElem?_eq_some_iff.1 hb2
    have r1 := hb.byte b1 (List.mem_of_getElem? hb1)
    have r2 := hb.byte b2 (List.mem_of_getElem? hb2)
    have l1 : i1.toNat < bs.length := by omega
    have l2 : i2.toNat < bs.length := by omega
    have v1 : IntKind.i64.wrap b1 = b1 := i64w (by omega) (by omega)
    have v2 : IntKind.i64.wrap b2 = b2 := i64w (by omega) (by omega)
    have v3 : IntKind.i64.wrap (b1 * 131) = b1 * 131 := i64w (by omega) (by omega)
    have v4 : IntKind.i64.wrap (p * 7) = p * 7 := i64w (by omega) (by omega)
    have v5 : IntKind.i64.wrap (p * 7 + 3) = p * 7 + 3 := i64w (by omega) (by omega)
    have v6 : IntKind.i64.wrap (b2 * 1117) = b2 * 1117 := i64w (by omega) (by omega)
    have v7 : IntKind.i64.wrap (b1 * 131 + b2 * 1117) = b1 * 131 + b2 * 1117 := i64w (by omega) (by omega)
    have v8 : IntKind.i64.wrap (p * 29) = p * 29 := i64w (by omega) (by omega)
    have v9 : IntKind.i64.wrap (b1 * 131 + b2 * 1117 + p * 29) = b1 * 131 + b2 * 1117 + p * 29 := i64w (by omega) (by omega)
    obtain ⟨q, hq⟩ : ∃ q, q = p.tdiv bs.length := ⟨_, rfl⟩
    have hq1 : 0 ≤ q ∧ q ≤ p := by
      rw [hq, Int.tdiv_eq_ediv_of_nonneg h0]
      exact ⟨Int.ediv_nonneg h0 (by omega), Int.ediv_le_self _ h0⟩
    have v10 : IntKind.i64.wrap q = q := i64w (by omega) (by omega)
    have v11 : IntKind.i64.wrap (q * 53) = q * 53 := i64w (by omega) (by omega)
    obtain ⟨x, hx⟩ : ∃ x, x = b1 * 131 + b2 * 1117 + p * 29 + q * 53 := ⟨_, rfl⟩
    have v12 : IntKind.i64.wrap x = x := i64w (by omega) (by omega)
    obtain ⟨y, hy⟩ : ∃ y, y = x.tdiv 64 := ⟨_, rfl⟩
    have hy1 : 0 ≤ y ∧ y ≤ x := by
      rw [hy, Int.tdiv_eq_ediv_of_nonneg (by omega)]
      exact ⟨Int.ediv_nonneg (by omega) (by omega), Int.ediv_le_self _ (by omega)⟩
    have v13 : IntKind.i64.wrap y = y := i64w (by omega) (by omega)
    obtain ⟨z, hz, hz1, hz2⟩ := xor_le (a := x) (b := y) (by omega) (by omega) (by omega) (by omega)
    have ht := tmod_in (x := z) (n := n) hz1 (by omega)
    refine ⟨z.tmod n, F_run fn89 rfl ?_, ht.1, fun _ => ht.2⟩
    simp [c89, rdBox, u1, u2, c1, c2', c2, c3, c1n, ← hi1, ← hi2, k1.1, k2.1, l1, l2, hg1, hg2, v1, v2, v3, v4, v5, v6, v7, v8, v9, ← hq, v10, v11, ← hx, v12, ← hy, v13, hz]

theorem law89 (bs : List Int) (p n : Int) (hb : Code bs) (h0 : 0 ≤ p) (hp : p ≤ 1000000000000) (hn : n ≤ 1000000000) : F 89 [.ptr 0 0 0, .int .i64 n] [rdBox bs p] = some (.int .i64 (pickV bs p n), [some (rdBox bs (p + 1))]) ∧ 0 ≤ pickV bs p n ∧ (1 ≤ n → pickV bs p n < n) := by
  obtain ⟨r, h1, h2⟩ := law89' bs p n hb h0 hp hn
  have : pickV bs p n = r := by unfold pickV; rw [h1]
  rw [this]
  exact ⟨h1, h2⟩

/-- The code that is read: its first 2000 bytes. -/
theorem law91 (bs : List Int) (hl : bs.length ≤ 1000000000) : F 91 [.sl .imm 1 (bs.map rowB)] [] = some (.cellp [.sl .imm 1 ((bs.take 2000).map rowB), .int .i64 0], []) := by
  refine F_run fn91 rfl ?_
  by_cases h : 2000 < bs.length
  · have h1 : (2000 : Int) < bs.length := by omega
    have h2 : (2000 : Int) ≤ bs.length := by omega
    simp [c91, h1, h2, slBounds]
  · have h1 : ¬ ((2000 : Int) < bs.length) := by omega
    have h2 : bs.take 2000 = bs := List.take_of_length_le (by omega)
    simp [c91, h1, h2]
end Go.Proofs.Ytfebkfeobdffjaa
