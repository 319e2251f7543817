/- The laws' own helpers: marks. -/
import Derived.Test.YtojihfiloldkgaaE2
namespace Go.Proofs.Ytojihfiloldkgaa
open Go
set_option linter.unusedSimpArgs false
set_option maxRecDepth 100000

/-- One more, as Go counts. -/
def up (k : Int) : Int := IntKind.i64.wrap (k + 1)
theorem up_fold (k : Int) : IntKind.i64.wrap (k + 1) = up k := rfl
theorem up_is {k : Int} (h0 : -9223372036854775808 ≤ k) (h1 : k < 9223372036854775807) : up k = k + 1 := i64w (by omega) (by omega)
def it (f : Int → Int) : Nat → Int → Int
  | 0, k => k
  | n + 1, k => f (it f n k)

def markByte (k : Nat) : UInt8 := UInt8.ofNat (IntKind.u8.wrap (IntKind.i64.wrap (48 + Int.tmod (k : Int) 10))).toNat
def markGo (k : Nat) (out : T) : T := if _ : k = 0 then out else markGo (k / 10) (⟨#[markByte k]⟩ ++ out)
termination_by k
decreasing_by omega
def markText (k : Int) : T := if k ≤ 0 then ⟨#[109, 48]⟩ else ⟨#[109]⟩ ++ markGo k.toNat ⟨#[]⟩

theorem size_app (a b : T) : (a ++ b).size = a.size + b.size := ByteArray.size_append

def head96 (k : Nat) (out : T) : St := hd [(0, .int .i64 k), (3, .str out)] [] 0

theorem markGo_size : ∀ (n k : Nat) (out : T), k < 10 ^ n → (markGo k out).size ≤ out.size + n
  | 0, k, out, h => by
    have : k = 0 := by simpa using h
    rw [markGo, dif_pos this]; omega
  | n + 1, k, out, h => by
    rw [markGo]
    split
    · omega
    · have h2 : k / 10 < 10 ^ n := Nat.div_lt_of_lt_mul (by rw [Nat.pow_succ] at h; omega)
      have := markGo_size n (k / 10) (⟨#[markByte k]⟩ ++ out) h2
      rw [size_app] at this
      have h1 : (⟨#[markByte k]⟩ : T).size = 1 := rfl
      omega

@[simp] theorem law96 (k : Int) (hk : k ≤ 100000000000000) : F 96 [.int .i64 k] [] = some (.str (markText k), []) := by
  refine F_run fn96 rfl ?_
  simp [c96, markText]
  by_cases h0 : k ≤ 0
  · simp [h0]
  · obtain ⟨n, rfl⟩ : ∃ n : Nat, k = n := ⟨k.toNat, by omega⟩
    have h0' : ¬ n = 0 := by omega
    simp [h0, h0']
    refine (loop_by (σ := Nat × T) (fun x => head96 x.1 x.2) (fun x => x.1 ≤ 100000000000000 ∧ ∃ j, x.1 < 10 ^ j ∧ x.2.size + j ≤ 19) (fun x => x.1) (fun x => (.str (⟨#[109]⟩ ++ markGo x.1 x.2), [])) (fun ⟨k, out⟩ Y hi hY => ?_) (n, ⟨#[]⟩) ?_ ⟨by simp only; omega, 19, ?_, ?_⟩ ?_).trans rfl
    · simp [head96]
    · simp; omega
    · show (⟨#[]⟩ : T).size + 19 ≤ 19
      have : (⟨#[]⟩ : T).size = 0 := rfl
      omega
    · unfold big; simp only; omega
    · obtain ⟨hkk, j, hj, hs⟩ := hi
      simp only at hkk hj hs hY ⊢
      rcases Nat.eq_zero_or_pos k with rfl | hp
      · have e : markGo 0 out = out := by rw [markGo]; simp
        have hs2 : (⟨#[109]⟩ : T).size + out.size ≤ 9223372036854775807 := by
          have h1 : (⟨#[109]⟩ : T).size = 1 := rfl
          omega
        simp [head96, c96b0, e, hs2]
      · obtain ⟨j, rfl⟩ : ∃ i, j = i + 1 := ⟨j - 1, by
          rcases j with _ | j
          · simp at hj; omega
          · omega⟩
        have e : markGo k out = markGo (k / 10) (⟨#[markByte k]⟩ ++ out) := by rw [markGo, dif_neg (by omega)]
        have hq : IntKind.i64.wrap ((k : Int) / 10) = (k : Int) / 10 := by apply i64w <;> omega
        have h1 : (⟨#[markByte k]⟩ : T).size = 1 := rfl
        have hs2 : (⟨#[markByte k]⟩ : T).size + out.size ≤ 9223372036854775807 := by omega
        have hm : (⟨#[UInt8.ofNat (IntKind.u8.wrap (IntKind.i64.wrap (48 + Int.tmod (k : Int) 10))).toNat]⟩ : T) = ⟨#[markByte k]⟩ := rfl
        simp [head96, c96b0, hp, e, toBytes, hm, hs2]
        rw [hY (k / 10, ⟨#[markByte k]⟩ ++ out) _ ⟨by simp only; omega, j, ?_, ?_⟩ ?_ ?_]
        · exact Nat.div_lt_of_lt_mul (by rw [Nat.pow_succ] at hj; omega)
        · rw [size_app]; omega
        · simp only; omega
        · simp [head96, hq]
/-- A list whose first places are another's. -/
def mixU {α : Type} (c : α → List AV) (ws ms : List α) (i : Nat) : List (List AV) := (ms.take i).map c ++ (ws.drop i).map c

section
variable {α : Type} (c : α → List AV) {ws ms : List α} {i : Nat}
theorem mixU_len (h : ms.length = ws.length) (hi : i ≤ ws.length) : (mixU c ws ms i).length = ws.length := by simp [mixU]; omega
theorem mixU_get {a : α} (ha : ws[i]? = some a) (h : ms.length = ws.length) : (mixU c ws ms i)[i]? = some (c a) := by
  obtain ⟨hi, hg⟩ := List.getElem?_eq_some_iff.1 ha
  have h1 : (List.map c (ms.take i)).length = i := by simp; omega
  rw [mixU, List.getElem?_append_right (by omega), h1, Nat.sub_self, List.getElem?_map, List.getElem?_drop]
  simp [ha]
theorem mixU_set {b : α} (hb : ms[i]? = some b) (h : ms.length = ws.length) : (mixU c ws ms i).set i (c b) = mixU c ws ms (i + 1) := by
  obtain ⟨hi, hg⟩ := List.getElem?_eq_some_iff.1 hb
  have h1 : (List.map c (ms.take i)).length = i := by simp; omega
  rw [mixU, mixU, List.set_append_right _ _ (by omega), h1, Nat.sub_self, List.drop_eq_getElem_cons (show i < ws.length by omega), List.map_cons, List.set_cons_zero, take_snoc hb]
  simp
theorem mixU_at {a : α} (ha : ws[i]? = some a) (h : ms.length = ws.length) (hl : i < (mixU c ws ms i).length) : (mixU c ws ms i)[i] = c a := by
  have := mixU_get c ha h
  rw [List.getElem?_eq_getElem hl] at this
  exact Option.some.inj this
theorem mixU_same {a : α} (ha : ws[i]? = some a) (hb : ms[i]? = some a) (h : ms.length = ws.length) : mixU c ws ms i = mixU c ws ms (i + 1) := by
  have hi := (List.getElem?_eq_some_iff.1 ha).1
  have hl : i < (mixU c ws ms i).length := by rw [mixU_len c h (by omega)]; exact hi
  have := List.set_getElem_self (as := mixU c ws ms i) (i := i) hl
  rw [mixU_at c ha h hl] at this
  rw [← mixU_set c hb h, this]
theorem mixU_zero : mixU c ws ms 0 = ws.map c := by simp [mixU]
theorem mixU_all (h : ms.length = ws.length) : mixU c ws ms ws.length = ms.map c := by simp [mixU, ← h]
end

theorem it_upj {k : Int} (h0 : 0 ≤ k) (h1 : k ≤ 100000000000000) : ∀ j : Nat, j ≤ 100 → it up j k = k + j := by
  intro j
  induction j with
  | zero => intro _; simp [it]
  | succ j ih =>
    intro hj
    rw [it, ih (by omega), up_is (by omega) (by omega)]
    omega

def up4 (k : Int) : Int := up (up (up (up k)))
theorem up4_is {k : Int} (h0 : 0 ≤ k) (h1 : k ≤ 100000000000000) : up4 k = k + 4 := by
  have := it_upj h0 h1 4 (by omega)
  exact this
theorem it_up4 {k : Int} {n : Nat} (h0 : 0 ≤ k) (hk : k ≤ 10000000000000) (hn : n ≤ 1048576) : it up4 n k = k + 4 * n := by
  induction n with
  | zero => simp [it]
  | succ n ih =>
    have := ih (by omega)
    rw [it, this, up4_is (by omega) (by omega)]
    omega
theorem it_up_le4 {k : Int} {i : Nat} (h0 : 0 ≤ k) (hk : k ≤ 10000000000000) (hi : i ≤ 1048576) : ∀ j, j ≤ 11 → it up j (it up4 i k) ≤ 100000000000000 := by
  intro j hj
  have h1 := it_up4 (n := i) h0 hk hi
  have h2 : ∀ j, j ≤ 11 → it up j (it up4 i k) = it up4 i k + j := by
    intro j
    induction j with
    | zero => intro _; simp [it]
    | succ j ih =>
      intro hj
      rw [it, ih (by omega), up_is (by omega) (by omega)]
      omega
  rw [h2 j hj]
  omega

def up5 (k : Int) : Int := up (up (up (up (up k))))
theorem up5_is {k : Int} (h0 : 0 ≤ k) (h1 : k ≤ 100000000000000) : up5 k = k + 5 := by
  have := it_upj h0 h1 5 (by omega)
  exact this
theorem it_up5 {k : Int} {n : Nat} (h0 : 0 ≤ k) (hk : k ≤ 10000000000000) (hn : n ≤ 1048576) : it up5 n k = k + 5 * n := by
  induction n with
  | zero => simp [it]
  | succ n ih =>
    have := ih (by omega)
    rw [it, this, up5_is (by omega) (by omega)]
    omega
theorem it_up_le5 {k : Int} {i : Nat} (h0 : 0 ≤ k) (hk : k ≤ 10000000000000) (hi : i ≤ 1048576) : ∀ j, j ≤ 11 → it up j (it up5 i k) ≤ 100000000000000 := by
  intro j hj
  have h1 := it_up5 (n := i) h0 hk hi
  have h2 : ∀ j, j ≤ 11 → it up j (it up5 i k) = it up5 i k + j := by
    intro j
    induction j with
    | zero => intro _; simp [it]
    | succ j ih =>
      intro hj
      rw [it, ih (by omega), up_is (by omega) (by omega)]
      omega
  rw [h2 j hj]
  omega

def up7 (k : Int) : Int := up (up (up (up (up (up (up k))))))
theorem up7_is {k : Int} (h0 : 0 ≤ k) (h1 : k ≤ 100000000000000) : up7 k = k + 7 := by
  have := it_upj h0 h1 7 (by omega)
  exact this
theorem it_up7 {k : Int} {n : Nat} (h0 : 0 ≤ k) (hk : k ≤ 10000000000000) (hn : n ≤ 1048576) : it up7 n k = k + 7 * n := by
  induction n with
  | zero => simp [it]
  | succ n ih =>
    have := ih (by omega)
    rw [it, this, up7_is (by omega) (by omega)]
    omega
theorem it_up_le7 {k : Int} {i : Nat} (h0 : 0 ≤ k) (hk : k ≤ 10000000000000) (hi : i ≤ 1048576) : ∀ j, j ≤ 11 → it up j (it up7 i k) ≤ 100000000000000 := by
  intro j hj
  have h1 := it_up7 (n := i) h0 hk hi
  have h2 : ∀ j, j ≤ 11 → it up j (it up7 i k) = it up7 i k + j := by
    intro j
    induction j with
    | zero => intro _; simp [it]
    | succ j ih =>
      intro hj
      rw [it, ih (by omega), up_is (by omega) (by omega)]
      omega
  rw [h2 j hj]
  omega

def up11 (k : Int) : Int := up (up (up (up (up (up (up (up (up (up (up k))))))))))
theorem up11_is {k : Int} (h0 : 0 ≤ k) (h1 : k ≤ 100000000000000) : up11 k = k + 11 := by
  have := it_upj h0 h1 11 (by omega)
  exact this
theorem it_up11 {k : Int} {n : Nat} (h0 : 0 ≤ k) (hk : k ≤ 10000000000000) (hn : n ≤ 1048576) : it up11 n k = k + 11 * n := by
  induction n with
  | zero => simp [it]
  | succ n ih =>
    have := ih (by omega)
    rw [it, this, up11_is (by omega) (by omega)]
    omega
theorem it_up_le11 {k : Int} {i : Nat} (h0 : 0 ≤ k) (hk : k ≤ 10000000000000) (hi : i ≤ 1048576) : ∀ j, j ≤ 11 → it up j (it up11 i k) ≤ 100000000000000 := by
  intro j hj
  have h1 := it_up11 (n := i) h0 hk hi
  have h2 : ∀ j, j ≤ 11 → it up j (it up11 i k) = it up11 i k + j := by
    intro j
    induction j with
    | zero => intro _; simp [it]
    | succ j ih =>
      intro hj
      rw [it, ih (by omega), up_is (by omega) (by omega)]
      omega
  rw [h2 j hj]
  omega

end Go.Proofs.Ytojihfiloldkgaa
