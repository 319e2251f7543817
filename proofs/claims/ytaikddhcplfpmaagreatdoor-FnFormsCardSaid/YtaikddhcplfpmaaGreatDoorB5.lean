/- Draws: the reader of the code. · Layer 1: names, holds and wants: what the program's and the reference's checks compute. · Layer 2: runs: what the program's and the reference's checks compute. · Layer 4: asks, and what a mate must be. · Layer 6: the book of grants: what it must be. · Layer 8: worlds: what they must be. · Layer 3: ticks of runs. · Layer 5: copies of mates; falls and rises. · Layer 8: has a world settled? · Layer 3: a tick of a run's life. · Draws: wants and runs. · Runs that end in some result of a kind. · Draws: decimals, lists of wants and of runs. · Draws: mates. · Draws: a valid mate. · Draws: a mate that is spoilt. · Draws: any mate, and one that falls. · The library's functions in the abstract machine; sizes of texts. · Layer 7: what is sent, as a text. · What is valid, said of lists as wholes. · The laws' own helpers, on wants: copies, sizes, comparison with the same. · The laws' own helpers, on runs. · The laws' own helpers: marks. · The laws' own helpers: marks on runs. · The laws' own helpers, on asks and mates. · The laws' own helpers: sizes only go down. · The laws' own helpers: marks on mates. · The laws' own helpers, on parcels. -/
import Derived.Test.YtaikddhcplfpmaaGreatDoorB2
import Derived.Test.YtaikddhcplfpmaaGreatDoorB4
namespace Go.Proofs.YtaikddhcplfpmaaGreatDoor
open Go
set_option linter.unusedSimpArgs false
set_option maxRecDepth 100000

structure Code (bs : List Int) : Prop where
  len : bs.length ≤ 2000
  byte : ∀ b ∈ bs, 0 ≤ b ∧ b ≤ 255

/-- The reader's variable. -/
def rdBox (bs : List Int) (p : Int) : AO := .box [.sl .imm 1 (bs.map rowB), .int .i64 p]

noncomputable def pickV (bs : List Int) (p n : Int) : Int := match F 89 [.ptr 0 0 0, .int .i64 n] [rdBox bs p] with
  | some (.int .i64 r, _) => r
  | _ => 0

theorem xor_le {a b : Int} (h1 : 0 ≤ a) (h2 : a < 9223372036854775808) (h3 : 0 ≤ b) (h4 : b < 9223372036854775808) :
    ∃ r : Int, IntKind.i64.wrap (((a % 2 ^ IntKind.i64.bits).toNat ^^^ (b % 2 ^ IntKind.i64.bits).toNat : Nat) : Int) = r ∧ 0 ≤ r ∧ r < 9223372036854775808 := by
  obtain ⟨x, rfl⟩ : ∃ x : Nat, a = x := ⟨a.toNat, by omega⟩
  obtain ⟨y, rfl⟩ : ∃ y : Nat, b = y := ⟨b.toNat, by omega⟩
  have e1 : ((x : Int) % 2 ^ IntKind.i64.bits).toNat = x := by simp [IntKind.bits]; omega
  have e2 : ((y : Int) % 2 ^ IntKind.i64.bits).toNat = y := by simp [IntKind.bits]; omega
  have h := Nat.xor_lt_two_pow (x := x) (y := y) (n := 63) (by omega) (by omega)
  refine ⟨((x ^^^ y : Nat) : Int), ?_, by omega, by omega⟩
  rw [e1, e2]
  exact i64w (by omega) (by omega)

theorem tmod_in {x n : Int} (hx : 0 ≤ x) (hn : 1 ≤ n) : 0 ≤ x.tmod n ∧ x.tmod n < n := by
  rw [Int.tmod_eq_emod_of_nonneg hx]
  exact ⟨Int.emod_nonneg _ (by omega), Int.emod_lt_of_pos _ (by omega)⟩

theorem law89' (bs : List Int) (p n : Int) (hb : Code bs) (h0 : 0 ≤ p) (hp : p ≤ 1000000000000) (hn : n ≤ 1000000000) : ∃ r, F 89 [.ptr 0 0 0, .int .i64 n] [rdBox bs p] = some (.int .i64 r, [some (rdBox bs (p + 1))]) ∧ 0 ≤ r ∧ (1 ≤ n → r < n) := by
  have u1 : IntKind.i64.wrap (p + 1) = p + 1 := i64w (by omega) (by omega)
  have u2 : IntKind.i64.wrap p = p := i64w (by omega) (by omega)
  have hl := hb.len
  by_cases c1 : n < 1
  · refine ⟨0, F_run fn89 rfl ?_, by omega, by omega⟩
    simp [c89, rdBox, u1, c1]
  by_cases c2 : bs = []
  · subst c2
    refine ⟨0, F_run fn89 rfl ?_, by omega, by omega⟩
    simp [c89, rdBox, u1, c1]
  have hpos : 0 < bs.length := List.length_pos_iff.2 c2
  have c2' : ¬ ((bs.length : Int) = 0) := by omega
  have c1n : ¬ (n = 0) := by omega
  by_cases c3 : p < bs.length
  · obtain ⟨b, hbb⟩ : ∃ b, bs[p.toNat]? = some b := ⟨_, List.getElem?_eq_getElem (by omega)⟩
    obtain ⟨_, hg⟩ := List.getElem?_eq_some_iff.1 hbb
    have hr := hb.byte b (List.mem_of_getElem? hbb)
    have u3 : IntKind.i64.wrap b = b := i64w (by omega) (by omega)
    have ht := tmod_in (x := b) (n := n) (by omega) (by omega)
    have hlt : p.toNat < bs.length := by omega
    refine ⟨b.tmod n, F_run fn89 rfl ?_, ht.1, fun _ => ht.2⟩
    simp [c89, rdBox, u1, u2, c1, c2', c2, c3, c1n, hlt, hg, h0, u3]
  · obtain ⟨i1, hi1⟩ : ∃ i, i = p.tmod bs.length := ⟨_, rfl⟩
    obtain ⟨i2, hi2⟩ : ∃ i, i = (p * 7 + 3).tmod bs.length := ⟨_, rfl⟩
    have k1 := tmod_in (x := p) (n := bs.length) h0 (by omega)
    have k2 := tmod_in (x := p * 7 + 3) (n := bs.length) (by omega) (by omega)
    rw [← hi1] at k1
    rw [← hi2] at k2
    obtain ⟨b1, hb1⟩ : ∃ b, bs[i1.toNat]? = some b := ⟨_, List.getElem?_eq_getElem (by omega)⟩
    obtain ⟨b2, hb2⟩ : ∃ b, bs[i2.toNat]? = some b := ⟨_, List.getElem?_eq_getElem (by omega)⟩
    obtain ⟨_, hg1⟩ := List.getElem?_eq_some_iff.1 hb1
    obtain ⟨_, hg2⟩ := List.getElem?_eq_some_iff.1 hb2
    have r1 := hb.byte b1 (List.mem_of_getElem? hb1)
    have r2 := hb.byte b2 (List.mem_of_getElem? hb2)
    have l1 : i1.toNat < bs.length := by omega
    have l2 : i2.toNat < bs.length := by omega
    have v1 : IntKind.i64.wrap b1 = b1 := i64w (by omega) (by omega)
    have v2 : IntKind.i64.wrap b2 = b2 := i64w (by omega) (by omega)
    have v3 : IntKind.i64.wrap (b1 * 131) = b1 * 131 := i64w (by omega) (by omega)
    have v4 : IntKind.i64.wrap (p * 7) = p * 7 := i64w (by omega) (by omega)
    have v5 : IntKind.i64.wrap (p * 7 + 3) = p * 7 + 3 := i64w (by omega) (by omega)
    have v6 : IntKind.i64.wrap (b2 * 1117) = b2 * 1117 := i64w (by omega) (by omega)
    have v7 : IntKind.i64.wrap (b1 * 131 + b2 * 1117) = b1 * 131 + b2 * 1117 := i64w (by omega) (by omega)
    have v8 : IntKind.i64.wrap (p * 29) = p * 29 := i64w (by omega) (by omega)
    have v9 : IntKind.i64.wrap (b1 * 131 + b2 * 1117 + p * 29) = b1 * 131 + b2 * 1117 + p * 29 := i64w (by omega) (by omega)
    obtain ⟨q, hq⟩ : ∃ q, q = p.tdiv bs.length := ⟨_, rfl⟩
    have hq1 : 0 ≤ q ∧ q ≤ p := by
      rw [hq, Int.tdiv_eq_ediv_of_nonneg h0]
      exact ⟨Int.ediv_nonneg h0 (by omega), Int.ediv_le_self _ h0⟩
    have v10 : IntKind.i64.wrap q = q := i64w (by omega) (by omega)
    have v11 : IntKind.i64.wrap (q * 53) = q * 53 := i64w (by omega) (by omega)
    obtain ⟨x, hx⟩ : ∃ x, x = b1 * 131 + b2 * 1117 + p * 29 + q * 53 := ⟨_, rfl⟩
    have v12 : IntKind.i64.wrap x = x := i64w (by omega) (by omega)
    obtain ⟨y, hy⟩ : ∃ y, y = x.tdiv 64 := ⟨_, rfl⟩
    have hy1 : 0 ≤ y ∧ y ≤ x := by
      rw [hy, Int.tdiv_eq_ediv_of_nonneg (by omega)]
      exact ⟨Int.ediv_nonneg (by omega) (by omega), Int.ediv_le_self _ (by omega)⟩
    have v13 : IntKind.i64.wrap y = y := i64w (by omega) (by omega)
    obtain ⟨z, hz, hz1, hz2⟩ := xor_le (a := x) (b := y) (by omega) (by omega) (by omega) (by omega)
    have ht := tmod_in (x := z) (n := n) hz1 (by omega)
    refine ⟨z.tmod n, F_run fn89 rfl ?_, ht.1, fun _ => ht.2⟩
    simp [c89, rdBox, u1, u2, c1, c2', c2, c3, c1n, ← hi1, ← hi2, k1.1, k2.1, l1, l2, hg1, hg2, v1, v2, v3, v4, v5, v6, v7, v8, v9, ← hq, v10, v11, ← hx, v12, ← hy, v13, hz]

theorem law89 (bs : List Int) (p n : Int) (hb : Code bs) (h0 : 0 ≤ p) (hp : p ≤ 1000000000000) (hn : n ≤ 1000000000) : F 89 [.ptr 0 0 0, .int .i64 n] [rdBox bs p] = some (.int .i64 (pickV bs p n), [some (rdBox bs (p + 1))]) ∧ 0 ≤ pickV bs p n ∧ (1 ≤ n → pickV bs p n < n) := by
  obtain ⟨r, h1, h2⟩ := law89' bs p n hb h0 hp hn
  have : pickV bs p n = r := by unfold pickV; rw [h1]
  rw [this]
  exact ⟨h1, h2⟩

/-- The code that is read: its first 2000 bytes. -/
theorem law91 (bs : List Int) (hl : bs.length ≤ 1000000000) : F 91 [.sl .imm 1 (bs.map rowB)] [] = some (.cellp [.sl .imm 1 ((bs.take 2000).map rowB), .int .i64 0], []) := by
  refine F_run fn91 rfl ?_
  by_cases h : 2000 < bs.length
  · have h1 : (2000 : Int) < bs.length := by omega
    have h2 : (2000 : Int) ≤ bs.length := by omega
    simp [c91, h1, h2, slBounds]
  · have h1 : ¬ ((2000 : Int) < bs.length) := by omega
    have h2 : bs.take 2000 = bs := List.take_of_length_le (by omega)
    simp [c91, h1, h2]
end Go.Proofs.YtaikddhcplfpmaaGreatDoor

namespace Go.Proofs.YtaikddhcplfpmaaGreatDoor
open Go
set_option linter.unusedSimpArgs false
set_option maxRecDepth 100000

def inR (n lo hi : Int) : Bool := decide (lo ≤ n) && decide (n ≤ hi)

@[simp] theorem law85 (n lo hi : Int) : F 85 [.int .i64 n, .int .i64 lo, .int .i64 hi] [] = some (.bool (inR n lo hi), []) := by
  refine F_run fn85 rfl ?_
  simp [c85, inR]
  by_cases h : lo ≤ n <;> simp [h]

@[simp] theorem law102 (n lo hi : Int) : F 102 [.int .i64 n, .int .i64 lo, .int .i64 hi] [] = some (.bool (inR n lo hi), []) := by
  refine F_run fn102 rfl ?_
  simp [c102, inR]
  by_cases h : lo ≤ n <;> simp [h]

def nameByte (b : UInt8) : Bool := decide (33 ≤ (b.toNat : Int)) && decide ((b.toNat : Int) ≤ 126)
def isName (s : ByteArray) : Bool := decide (1 ≤ s.size) && decide (s.size ≤ 20) && s.data.toList.all nameByte

theorem size_toList (s : ByteArray) : s.data.toList.length = s.size := rfl

def head105 (s : ByteArray) (i : Nat) : St := hd [(0, .str s), (13, .int .i64 s.size), (14, .int .i64 i)] [] 0

@[simp] theorem law105 (s : ByteArray) : F 105 [.str s] [] = some (.bool (isName s), []) := by
  refine F_run fn105 rfl ?_
  simp [c105, isName]
  by_cases h1 : 1 ≤ s.size
  · by_cases h2 : s.size ≤ 20
    · have h3 : ¬ (20 < (s.size : Int)) := by omega
      have h4 : 1 ≤ (s.size : Int) := by omega
      simp [h1, h2, h3, h4]
      refine (loop_list s.data.toList (fun i (_ : Unit) => head105 s i) (fun _ _ => True) (fun _ r _ => (.bool (r.all nameByte), [])) (fun acc Y _ => ?_) (fun i a r acc Y ha hi hr _ hY => ?_) () ?_ trivial ?_).trans ?_
      · rw [size_toList]
        simp [head105, c105b0]
      · rw [size_toList] at hi
        have hw : IntKind.i64.wrap ((i : Int) + 1) = (i : Int) + 1 := i64w (by omega) (by omega)
        have ha' : s.data[i]? = some a := by simpa using ha
        obtain ⟨_, ha⟩ := Array.getElem?_eq_some_iff.1 ha'
        simp [head105, c105b0, ha, hi, nameByte]
        by_cases q1 : 33 ≤ (a.toNat : Int)
        · by_cases q2 : (a.toNat : Int) ≤ 126
          · have q3 : ¬ ((a.toNat : Int) < 33) := by omega
            have q4 : ¬ (126 < (a.toNat : Int)) := by omega
            simp [q1, q2, q3, q4]
            rw [hY () _ trivial]
            simp [head105, hw]
          · have q3 : ¬ ((a.toNat : Int) < 33) := by omega
            have q4 : 126 < (a.toNat : Int) := by omega
            simp [q1, q2, q3, q4]
        · have q3 : (a.toNat : Int) < 33 := by omega
          simp [q1, q3]
      · simp [head105]
      · rw [size_toList]; unfold big; omega
      · simp
    · have h3 : 20 < (s.size : Int) := by omega
      have h4 : 1 ≤ (s.size : Int) := by omega
      simp [h1, h2, h3, h4]
  · have h4 : ¬ (1 ≤ (s.size : Int)) := by omega
    simp [h1, h4]

def head101 (s : ByteArray) (i : Nat) : St := hd [(0, .str s), (3, .int .i64 i)] [] 0

@[simp] theorem law101 (s : ByteArray) : F 101 [.str s] [] = some (.bool (isName s), []) := by
  refine F_run fn101 rfl ?_
  simp [c101, isName, inR]
  by_cases h1 : 1 ≤ s.size
  · by_cases h2 : s.size ≤ 20
    · have h3 : ¬ (20 < (s.size : Int)) := by omega
      have h4 : ¬ ((s.size : Int) < 1) := by omega
      simp [h1, h2, h3, h4]
      refine (loop_list s.data.toList (fun i (_ : Unit) => head101 s i) (fun _ _ => True) (fun _ r _ => (.bool (r.all nameByte), [])) (fun acc Y _ => ?_) (fun i a r acc Y ha hi hr _ hY => ?_) () ?_ trivial ?_).trans ?_
      · rw [size_toList]
        simp [head101, c101b0]
      · rw [size_toList] at hi
        have hw : IntKind.i64.wrap ((i : Int) + 1) = (i : Int) + 1 := i64w (by omega) (by omega)
        have ha' : s.data[i]? = some a := by simpa using ha
        obtain ⟨_, ha⟩ := Array.getElem?_eq_some_iff.1 ha'
        simp [head101, c101b0, ha, hi, nameByte]
        by_cases q1 : 33 ≤ (a.toNat : Int)
        · by_cases q2 : (a.toNat : Int) ≤ 126
          · have q3 : ¬ ((a.toNat : Int) < 33) := by omega
            have q4 : ¬ (126 < (a.toNat : Int)) := by omega
            simp [q1, q2, q3, q4]
            rw [hY () _ trivial]
            simp [head101, hw]
          · have q3 : ¬ ((a.toNat : Int) < 33) := by omega
            have q4 : 126 < (a.toNat : Int) := by omega
            simp [q1, q2, q3, q4]
        · have q3 : (a.toNat : Int) < 33 := by omega
          simp [q1, q3]
      · simp [head101]
      · rw [size_toList]; unfold big; omega
      · simp
    · have h3 : 20 < (s.size : Int) := by omega
      simp [h1, h2, h3]
  · have h4 : (s.size : Int) < 1 := by omega
    simp [h1, h4]

def isHold (s : ByteArray) : Bool := isName s && !(sEq s ⟨#[42]⟩)

@[simp] theorem law106 (s : ByteArray) : F 106 [.str s] [] = some (.bool (isHold s), []) := by
  refine F_run fn106 rfl ?_
  simp [c106, isHold]
  cases isName s <;> simp

@[simp] theorem law100 (s : ByteArray) : F 100 [.str s] [] = some (.bool (isHold s), []) := by
  refine F_run fn100 rfl ?_
  simp [c100, isHold]
  cases isName s <;> simp

def wantOk (w : Want) : Bool := isName w.copy && inR w.version 1 1000000 && (sEq w.hold ⟨#[]⟩ || isHold w.hold) && inR w.pull 0 100 && inR w.start 0 100 && inR w.dies 0 100 && inR w.grace 0 100

@[simp] theorem law82 (s : T) (n : Int) (h : T) (n1 n2 n3 n4 : Int) : F 82 [.agg [.str s, .int .i64 n, .str h, .int .i64 n1, .int .i64 n2, .int .i64 n3, .int .i64 n4]] [] = some (.bool (wantOk ⟨s, n, h, n1, n2, n3, n4⟩), []) := by
  refine F_run fn82 rfl ?_
  simp [c82, wantOk]
  repeat' split
  all_goals simp_all

@[simp] theorem law81 (s : T) (n : Int) (h : T) (n1 n2 n3 n4 : Int) : F 81 [.agg [.str s, .int .i64 n, .str h, .int .i64 n1, .int .i64 n2, .int .i64 n3, .int .i64 n4]] [] = some (.bool (wantOk ⟨s, n, h, n1, n2, n3, n4⟩), []) := by
  refine F_run fn81 rfl ?_
  simp [c81, wantOk]
  repeat' split
  all_goals simp_all

/-! ### Wants -/
def ascW (pre : List Want) (w : Want) : Bool :=
  match pre.getLast? with
  | none => true
  | some p => sLt p.copy w.copy
def heldB (pre : List Want) (k : T) : Bool := pre.any fun p => sEq p.hold k
def freshW (pre : List Want) (w : Want) : Bool := sEq w.hold ⟨#[]⟩ || !heldB pre w.hold
def wantsGo (pre : List Want) : List Want → Bool
  | [] => true
  | w :: r => wantOk w && (ascW pre w && (freshW pre w && wantsGo (pre ++ [w]) r))
def wantsOk (ws : List Want) : Bool := decide (ws.length ≤ 10) && wantsGo [] ws

/-- The holds of the wants before. -/
def heldMap (pre : List Want) : ByteArray → Option AV := pre.foldl (fun m w => mapPut w.hold (.bool true) m) noKeys

@[simp] theorem heldMap_get (pre : List Want) (k : ByteArray) : (mapGet k (heldMap pre)).getD (.bool false) = .bool (heldB pre k) := by
  have h : ∀ (l : List Want) (m : ByteArray → Option AV) (b : Bool), (mapGet k m).getD (.bool false) = .bool b → (mapGet k (l.foldl (fun m w => mapPut w.hold (.bool true) m) m)).getD (.bool false) = .bool (b || l.any fun p => sEq p.hold k) := by
    intro l
    induction l with
    | nil => intro m b h; simpa using h
    | cons w l ih =>
      intro m b h
      rw [List.foldl_cons, ih _ (b || sEq w.hold k)]
      · simp [Bool.or_assoc]
      · rw [mapGet_put, sEq_comm w.hold k]
        by_cases h2 : sEq k w.hold = true
        · simp [h2]
        · simp [h2, h]
  have := h pre noKeys false rfl
  rw [Bool.false_or] at this
  exact this

@[simp] theorem heldB_nil (k : T) : heldB [] k = false := rfl
theorem heldB_snoc (pre : List Want) (w : Want) (k : T) : heldB (pre ++ [w]) k = (heldB pre k || sEq w.hold k) := by simp [heldB]
theorem heldMap_snoc (pre : List Want) (w : Want) : heldMap (pre ++ [w]) = mapPut w.hold (.bool true) (heldMap pre) := by simp [heldMap]

def head6 (m : Md) (ws : List Want) (i : Nat) : St := hd [(0, .sl m 7 (ws.map Want.c)), (3, .mapr 0), (7, .sl m 7 (ws.map Want.c)), (8, .int .i64 ws.length), (9, .int .i64 i)] [.map false (heldMap (ws.take i))] 0

theorem take_snoc {α : Type} {xs : List α} {j : Nat} {a : α} (h : xs[j]? = some a) : xs.take (j + 1) = xs.take j ++ [a] := by
  rw [List.take_add_one, h]; rfl

/-- The place before. -/
theorem prev {α : Type} {xs : List α} {i : Nat} (hi : i < xs.length) (hm : xs.length ≤ 9223372036854775807) (hp : i ≠ 0) : ∃ j : Nat, 0 < i ∧ IntKind.i64.wrap ((i : Int) - 1) = (j : Int) ∧ ∃ h : j < xs.length, (xs.take i).getLast? = some (xs[j]'h) := by
  obtain ⟨j, rfl⟩ : ∃ j, i = j + 1 := ⟨i - 1, by omega⟩
  refine ⟨j, by omega, ?_, by omega, ?_⟩
  · rw [i64w] <;> omega
  · rw [take_snoc (List.getElem?_eq_getElem (show j < xs.length by omega)), List.getLast?_concat]

theorem law6 (ws : List Want) (hl : ws.length < big) : F 6 [.sl .bor 7 (ws.map Want.c)] [] = some (.bool (wantsOk ws), []) := by
  refine F_run fn6 rfl ?_
  have hm : ws.length ≤ 9223372036854775807 := by unfold big at hl; omega
  simp [c6]
  refine (loop_list ws (fun i (_ : Unit) => head6 .bor ws i) (fun _ _ => True) (fun i r _ => (.bool (decide (ws.length ≤ 10) && wantsGo (ws.take i) r), [])) (fun acc Y _ => ?_) (fun i a r acc Y ha hi hr _ hY => ?_) () ?_ trivial ?_).trans ?_
  · simp [head6, c6b0, wantsGo]
    omega
  · have hw : IntKind.i64.wrap ((i : Int) + 1) = (i : Int) + 1 := i64w (by omega) (by omega)
    obtain ⟨_, hg⟩ := List.getElem?_eq_some_iff.1 ha
    have hs := take_snoc ha
    have hY' : ∀ s', s'.norm [0, 3, 7, 8, 9] = head6 .bor ws (i + 1) → fin [CRes.tmp 2] 0 (Y s') = some (.bool (decide (ws.length ≤ 10) && wantsGo (ws.take i ++ [a]) r), []) := fun s' h => by rw [← hs]; exact hY () s' trivial h
    have hh : heldMap (ws.take (i + 1)) = mapPut a.hold (.bool true) (heldMap (ws.take i)) := by rw [hs, heldMap_snoc]
    by_cases hz : i = 0
    · have hp : ¬ 0 < i := by omega
      have ht : ws.take i = [] := by rw [hz]; rfl
      simp [head6, c6b0, wantsGo, hg, hi, ascW, freshW, hp, ht]
      cases hq : wantOk a <;> cases hr2 : sEq a.hold ⟨#[]⟩ <;> simp [hq, hr2]
      all_goals
        rw [hY' _ (by simp [head6, hw, hh, ht])]
        simp [ht]
    · obtain ⟨j, hp, hw1, hj, hlast⟩ := prev hi hm hz
      simp [head6, c6b0, wantsGo, hg, hi, ascW, freshW, hp, hw1, hj, hlast]
      cases hq : wantOk a <;> cases hr2 : sEq a.hold ⟨#[]⟩ <;> cases hr3 : sLt ws[j].copy a.copy <;> simp [hq, hr2, hr3]
      · cases hr4 : heldB (ws.take i) a.hold
        · simp
          rw [hY' _ (by simp [head6, hw, hh])]
        · simp
      · rw [hY' _ (by simp [head6, hw, hh])]
  · simp [head6, heldMap]
  · exact hl
  · simp [wantsOk]
def head7 (ws : List Want) (i : Nat) : St := hd [(0, .sl .bor 7 (ws.map Want.c)), (3, .int .i64 i)] [] 0
def head7k (ws : List Want) (i k : Nat) : St := hd [(0, .sl .bor 7 (ws.map Want.c)), (3, .int .i64 i), (4, .int .i64 k)] [] 0

theorem law7 (ws : List Want) (hl : ws.length < big) : F 7 [.sl .bor 7 (ws.map Want.c)] [] = some (.bool (wantsOk ws), []) := by
  refine F_run fn7 rfl ?_
  have hm : ws.length ≤ 9223372036854775807 := by unfold big at hl; omega
  simp [c7, wantsOk]
  by_cases h10 : ws.length ≤ 10
  · have h10' : ¬ (10 < (ws.length : Int)) := by omega
    simp [h10, h10']
    refine (loop_list ws (fun i (_ : Unit) => head7 ws i) (fun _ _ => True) (fun i r _ => (.bool (wantsGo (ws.take i) r), [])) (fun acc Y _ => ?_) (fun i a r acc Y ha hi hr _ hY => ?_) () ?_ trivial ?_).trans ?_
    · simp [head7, c7b1, wantsGo]
    · have hw : IntKind.i64.wrap ((i : Int) + 1) = (i : Int) + 1 := i64w (by omega) (by omega)
      obtain ⟨_, hg⟩ := List.getElem?_eq_some_iff.1 ha
      have hs := take_snoc ha
      have hY' : ∀ s', s'.norm [0, 3] = head7 ws (i + 1) → fin [CRes.tmp 2] 0 (Y s') = some (.bool (wantsGo (ws.take i ++ [a]) r), []) := fun s' h => by rw [← hs]; exact hY () s' trivial h
      have inner : ∀ (fs : List Fr) (st : St), st.norm [0, 3, 4] = head7k ws i 0 → fin [CRes.tmp 2] 0 (X F (.code (.loop [0, 3, 4] c7b0) :: .blk 2 :: .blk 1 :: .code (.region [⟨some 12, .mov (.tmp 3), none⟩, ⟨some 13, .bin .add (.tmp 12) (.const (.int .i64 1)), none⟩, ⟨some 3, .mov (.tmp 13), none⟩] [0, 3]) :: .back Y :: fs) (.normal, st)) = some (.bool (freshW (ws.take i) a && wantsGo (ws.take i ++ [a]) r), []) := by
        intro fs st hst
        refine (loop_list (ws.take i) (fun k (_ : Unit) => head7k ws i k) (fun _ _ => True) (fun k t _ => (.bool ((sEq a.hold ⟨#[]⟩ || !heldB t a.hold) && wantsGo (ws.take i ++ [a]) r), [])) (fun acc Z _ => ?_) (fun k b t acc Z hb hk ht _ hZ => ?_) () hst trivial ?_).trans ?_
        · have hlen : (ws.take i).length = i := by simp; omega
          rw [hlen]
          simp [head7k, c7b0]
          exact hY' _ (by simp [head7, hw])
        · have hk2 : k < i := by simp at hk; omega
          have hwk : IntKind.i64.wrap ((k : Int) + 1) = (k : Int) + 1 := i64w (by omega) (by omega)
          have hb2 : ws[k]? = some b := by rw [List.getElem?_take, if_pos hk2] at hb; exact hb
          obtain ⟨hkl, hgb⟩ := List.getElem?_eq_some_iff.1 hb2
          simp [head7k, c7b0, hk2, hi, hg, hkl, hgb]
          cases hr2 : sEq a.hold ⟨#[]⟩ <;> cases hr3 : sEq b.hold a.hold <;> simp [hr2, hr3, heldB]
          all_goals
            rw [hZ () _ trivial (by simp [head7k, hwk])]
            simp [hr2, heldB]
        · simp; unfold big; omega
        · simp [freshW]
      by_cases hz : i = 0
      · have hp : ¬ 0 < i := by omega
        have ht : ws.take i = [] := by rw [hz]; rfl
        simp [head7, c7b1, wantsGo, hg, hi, ascW, hp, ht]
        cases hq : wantOk a <;> simp [hq]
        rw [inner _ _ (by simp [head7k])]
        simp [ht]
      · obtain ⟨j, hp, hw1, hj, hlast⟩ := prev hi hm hz
        simp [head7, c7b1, wantsGo, hg, hi, ascW, hp, hw1, hj, hlast]
        cases hq : wantOk a <;> cases hr3 : sLt ws[j].copy a.copy <;> simp [hq, hr3]
        rw [inner _ _ (by simp [head7k])]
    · simp [head7]
    · exact hl
    · simp
  · have h10' : 10 < (ws.length : Int) := by omega
    simp [h10, h10']
end Go.Proofs.YtaikddhcplfpmaaGreatDoor

namespace Go.Proofs.YtaikddhcplfpmaaGreatDoor
open Go
set_option linter.unusedSimpArgs false
set_option maxRecDepth 100000

def aliveS (n : Int) : Bool := n == 3 || n == 4 || n == 6
@[simp] theorem aliveS_2 : aliveS 2 = false := rfl
def alive (r : Run) : Bool := aliveS r.state

@[simp] theorem law1 (s : T) (n : Int) (h : T) (n1 n2 n3 n4 m1 m2 m3 m4 : Int) : F 1 [.agg [.str s, .int .i64 n, .str h, .int .i64 n1, .int .i64 n2, .int .i64 n3, .int .i64 n4, .int .i64 m1, .int .i64 m2, .int .i64 m3, .int .i64 m4]] [] = some (.bool (aliveS m1), []) := by
  refine F_run fn1 rfl ?_
  simp [c1, aliveS]
  by_cases h1 : m1 = 3 <;> by_cases h2 : m1 = 4 <;> simp [h1, h2]

@[simp] theorem law2 (s : T) (n : Int) (h : T) (n1 n2 n3 n4 m1 m2 m3 m4 : Int) : F 2 [.agg [.str s, .int .i64 n, .str h, .int .i64 n1, .int .i64 n2, .int .i64 n3, .int .i64 n4, .int .i64 m1, .int .i64 m2, .int .i64 m3, .int .i64 m4]] [] = some (.bool (aliveS m1), []) := by
  refine F_run fn2 rfl ?_
  simp [c2, aliveS]
  by_cases h1 : m1 = 3 <;> by_cases h2 : m1 = 4 <;> simp [h1, h2]

/-- Has it its hold for long enough, or none? -/
def leasedB (hold : T) (til clock : Int) : Bool := sEq hold ⟨#[]⟩ || decide (IntKind.i64.wrap (clock + 4) ≤ til)
def leased (r : Run) (clock : Int) : Bool := leasedB r.want.hold r.til clock

@[simp] theorem law95 (s : T) (n : Int) (h : T) (n1 n2 n3 n4 m1 m2 m3 m4 c : Int) : F 95 [.agg [.str s, .int .i64 n, .str h, .int .i64 n1, .int .i64 n2, .int .i64 n3, .int .i64 n4, .int .i64 m1, .int .i64 m2, .int .i64 m3, .int .i64 m4], .int .i64 c] [] = some (.bool (leasedB h m4 c), []) := by
  refine F_run fn95 rfl ?_
  simp [c95, leasedB]
  cases h1 : sEq h ⟨#[]⟩ <;> simp [h1]

def runOk (r : Run) (clock : Int) : Bool :=
  wantOk r.want && (inR r.state 1 6 && (inR r.left 0 100 && (!(r.state == 2 && r.left != 0) && (inR r.falls 0 1000 && (inR r.til 0 1000016 && (!(sEq r.want.hold ⟨#[]⟩ && r.til != 0) && (!alive r || leased r clock)))))))

@[simp] theorem law84 (s : T) (n : Int) (h : T) (n1 n2 n3 n4 m1 m2 m3 m4 c : Int) : F 84 [.agg [.str s, .int .i64 n, .str h, .int .i64 n1, .int .i64 n2, .int .i64 n3, .int .i64 n4, .int .i64 m1, .int .i64 m2, .int .i64 m3, .int .i64 m4], .int .i64 c] [] =
    some (.bool (runOk ⟨⟨s, n, h, n1, n2, n3, n4⟩, m1, m2, m3, m4⟩ c), []) := by
  refine F_run fn84 rfl ?_
  simp [c84, runOk, alive, leased]
  cases h1 : wantOk ⟨s, n, h, n1, n2, n3, n4⟩ <;> simp [h1]
  cases h2 : inR m1 1 6 <;> simp [h2]
  cases h3 : inR m2 0 100 <;> simp [h3]
  by_cases h4 : m1 = 2 <;> simp [h4]
  · by_cases h5 : m2 = 0 <;> simp [h5]
    cases h6 : inR m3 0 1000 <;> simp [h6]
    cases h7 : inR m4 0 1000016 <;> simp [h7]
    cases h8 : sEq h ⟨#[]⟩ <;> simp [h8, aliveS]
    by_cases h9 : m4 = 0 <;> simp [h9]
  · cases h6 : inR m3 0 1000 <;> simp [h6]
    cases h7 : inR m4 0 1000016 <;> simp [h7]
    cases h8 : sEq h ⟨#[]⟩ <;> simp [h8]
    · cases h9 : aliveS m1 <;> simp [h9, h4]
    · by_cases h9 : m4 = 0 <;> simp [h9]
      cases h10 : aliveS m1 <;> simp [h10, h4]

def ascR (pre : List Run) (r : Run) : Bool :=
  match pre.getLast? with
  | none => true
  | some p => sLt p.want.copy r.want.copy
def runsGo (clock : Int) (pre : List Run) : List Run → Bool
  | [] => true
  | r :: rs => runOk r clock && (ascR pre r && runsGo clock (pre ++ [r]) rs)
def runsOk (rs : List Run) (clock : Int) : Bool := decide (rs.length ≤ 20) && runsGo clock [] rs

def head12 (rs : List Run) (c : Int) (i : Nat) : St := hd [(0, .sl .bor 11 (rs.map Run.c)), (1, .int .i64 c), (5, .int .i64 i)] [] 0

theorem law12 (rs : List Run) (c : Int) (hl : rs.length < big) : F 12 [.sl .bor 11 (rs.map Run.c), .int .i64 c] [] = some (.bool (runsOk rs c), []) := by
  refine F_run fn12 rfl ?_
  have hm : rs.length ≤ 9223372036854775807 := by unfold big at hl; omega
  simp [c12, runsOk]
  by_cases h20 : rs.length ≤ 20
  · have h20' : ¬ (20 < (rs.length : Int)) := by omega
    simp [h20, h20']
    refine (loop_list rs (fun i (_ : Unit) => head12 rs c i) (fun _ _ => True) (fun i r _ => (.bool (runsGo c (rs.take i) r), [])) (fun acc Y _ => ?_) (fun i a r acc Y ha hi hr _ hY => ?_) () ?_ trivial ?_).trans rfl
    · simp [head12, c12b0, runsGo]
    · have hw : IntKind.i64.wrap ((i : Int) + 1) = (i : Int) + 1 := i64w (by omega) (by omega)
      obtain ⟨_, hg⟩ := List.getElem?_eq_some_iff.1 ha
      have hs := take_snoc ha
      have hY' : ∀ s', s'.norm [0, 1, 5] = head12 rs c (i + 1) → fin [CRes.tmp 4] 0 (Y s') = some (.bool (runsGo c (rs.take i ++ [a]) r), []) := fun s' h => by rw [← hs]; exact hY () s' trivial h
      by_cases hz : i = 0
      · have hp : ¬ 0 < i := by omega
        have ht : rs.take i = [] := by rw [hz]; rfl
        simp [head12, c12b0, runsGo, hg, hi, ascR, hp, ht]
        cases hq : runOk a c <;> simp [hq]
        rw [hY' _ (by simp [head12, hw])]
        simp [ht]
      · obtain ⟨j, hp, hw1, hj, hlast⟩ := prev hi hm hz
        simp [head12, c12b0, runsGo, hg, hi, ascR, hp, hw1, hj, hlast]
        cases hq : runOk a c <;> cases hr3 : sLt rs[j].want.copy a.want.copy <;> simp [hq, hr3]
        rw [hY' _ (by simp [head12, hw])]
    · simp [head12]
    · exact hl
  · have h20' : 20 < (rs.length : Int) := by omega
    simp [h20, h20']

def head11 (rs : List Run) (c : Int) (i : Nat) : St := hd [(0, .sl .bor 11 (rs.map Run.c)), (1, .int .i64 c), (10, .sl .bor 11 (rs.map Run.c)), (11, .int .i64 rs.length), (12, .int .i64 i)] [] 0

theorem law11 (rs : List Run) (c : Int) (hl : rs.length < big) : F 11 [.sl .bor 11 (rs.map Run.c), .int .i64 c] [] = some (.bool (runsOk rs c), []) := by
  refine F_run fn11 rfl ?_
  have hm : rs.length ≤ 9223372036854775807 := by unfold big at hl; omega
  simp [c11, runsOk]
  by_cases h20 : rs.length ≤ 20
  · have h20' : ¬ (20 < (rs.length : Int)) := by omega
    simp [h20, h20']
    refine (loop_list rs (fun i (_ : Unit) => head11 rs c i) (fun _ _ => True) (fun i r _ => (.bool (runsGo c (rs.take i) r), [])) (fun acc Y _ => ?_) (fun i a r acc Y ha hi hr _ hY => ?_) () ?_ trivial ?_).trans rfl
    · simp [head11, c11b0, runsGo]
    · have hw : IntKind.i64.wrap ((i : Int) + 1) = (i : Int) + 1 := i64w (by omega) (by omega)
      obtain ⟨_, hg⟩ := List.getElem?_eq_some_iff.1 ha
      have hs := take_snoc ha
      have hY' : ∀ s', s'.norm [0, 1, 10, 11, 12] = head11 rs c (i + 1) → fin [CRes.tmp 4] 0 (Y s') = some (.bool (runsGo c (rs.take i ++ [a]) r), []) := fun s' h => by rw [← hs]; exact hY () s' trivial h
      by_cases hz : i = 0
      · have hp : ¬ 0 < i := by omega
        have ht : rs.take i = [] := by rw [hz]; rfl
        simp [head11, c11b0, runsGo, hg, hi, ascR, hp, ht, runOk, alive, leased, leasedB]
        cases q1 : wantOk a.want <;> simp [q1]
        cases q2 : inR a.state 1 6 <;> simp [q2]
        cases q3 : inR a.left 0 100 <;> simp [q3]
        cases q5 : inR a.falls 0 1000
        · by_cases h4 : a.state = 2 <;> by_cases h5 : a.left = 0 <;> simp [h4, h5]
        cases q6 : inR a.til 0 1000016
        · by_cases h4 : a.state = 2 <;> by_cases h5 : a.left = 0 <;> simp [h4, h5]
        cases q7 : sEq a.want.hold ⟨#[]⟩ <;> simp
        · by_cases h8 : IntKind.i64.wrap (c + 4) ≤ a.til
          · have h9 : ¬ (a.til < IntKind.i64.wrap (c + 4)) := by omega
            simp [h8, h9]
            by_cases h4 : a.state = 2 <;> by_cases h5 : a.left = 0 <;> simp [h4, h5]
            all_goals
              rw [hY' _ (by simp [head11, hw])]
              simp [ht, h4, h5]
          · have h9 : a.til < IntKind.i64.wrap (c + 4) := by omega
            simp [h8, h9]
            by_cases h4 : a.state = 2 <;> by_cases h5 : a.left = 0 <;> simp [h4, h5]
            · rw [hY' _ (by simp [head11, hw])]
              simp [ht, h4, h5]
            all_goals
              cases q10 : aliveS a.state <;> simp [q10]
              rw [hY' _ (by simp [head11, hw])]
              simp [ht, h4, h5, q10]
        · by_cases h8 : a.til = 0 <;> simp [h8]
          · by_cases h4 : a.state = 2 <;> by_cases h5 : a.left = 0 <;> simp [h4, h5]
            all_goals
              rw [hY' _ (by simp [head11, hw])]
              simp [ht, h4, h5]
      · obtain ⟨j, hp, hw1, hj, hlast⟩ := prev hi hm hz
        simp [head11, c11b0, runsGo, hg, hi, ascR, hp, hw1, hj, hlast, runOk, alive, leased, leasedB]
        cases q1 : wantOk a.want <;> simp [q1]
        cases hr3 : sLt rs[j].want.copy a.want.copy <;> simp [hr3]
        cases q2 : inR a.state 1 6 <;> simp [q2]
        cases q3 : inR a.left 0 100 <;> simp [q3]
        cases q5 : inR a.falls 0 1000
        · by_cases h4 : a.state = 2 <;> by_cases h5 : a.left = 0 <;> simp [h4, h5]
        cases q6 : inR a.til 0 1000016
        · by_cases h4 : a.state = 2 <;> by_cases h5 : a.left = 0 <;> simp [h4, h5]
        cases q7 : sEq a.want.hold ⟨#[]⟩ <;> simp
        · by_cases h8 : IntKind.i64.wrap (c + 4) ≤ a.til
          · have h9 : ¬ (a.til < IntKind.i64.wrap (c + 4)) := by omega
            simp [h8, h9]
            by_cases h4 : a.state = 2 <;> by_cases h5 : a.left = 0 <;> simp [h4, h5]
            all_goals
              rw [hY' _ (by simp [head11, hw])]
              try simp [h4, h5]
          · have h9 : a.til < IntKind.i64.wrap (c + 4) := by omega
            simp [h8, h9]
            by_cases h4 : a.state = 2 <;> by_cases h5 : a.left = 0 <;> simp [h4, h5]
            · rw [hY' _ (by simp [head11, hw])]
              try simp [h4, h5]
            all_goals
              cases q10 : aliveS a.state <;> simp [q10]
              rw [hY' _ (by simp [head11, hw])]
              try simp [h4, h5, q10]
        · by_cases h8 : a.til = 0 <;> simp [h8]
          · by_cases h4 : a.state = 2 <;> by_cases h5 : a.left = 0 <;> simp [h4, h5]
            all_goals
              rw [hY' _ (by simp [head11, hw])]
              try simp [h4, h5]
    · simp [head11]
    · exact hl
  · have h20' : 20 < (rs.length : Int) := by omega
    simp [h20, h20']
end Go.Proofs.YtaikddhcplfpmaaGreatDoor

namespace Go.Proofs.YtaikddhcplfpmaaGreatDoor
open Go
set_option linter.unusedSimpArgs false
set_option maxRecDepth 100000

/-- The place of a hold among asks, -1 if it is not there. -/
def askAtGo (h : T) : List Ask → Nat → Int
  | [], _ => -1
  | a :: r, i => if sEq a.hold h then i else askAtGo h r (i + 1)
def askAt (l : List Ask) (h : T) : Int := askAtGo h l 0

def head113 (l : List Ask) (h : T) (i : Nat) : St := hd [(1, .str h), (7, .sl .bor 4 (l.map Ask.c)), (8, .int .i64 l.length), (9, .int .i64 i)] [] 0

def head110 (l : List Ask) (h : T) (i : Nat) : St := hd [(0, .sl .bor 4 (l.map Ask.c)), (1, .str h), (5, .int .i64 i)] [] 0

def askOk (c : Int) (a : Ask) : Bool := isHold a.hold && (isName a.copy && (decide (0 ≤ a.first) && (decide (a.first ≤ a.at_) && decide (a.at_ ≤ c))))
def ascA (pre : List Ask) (a : Ask) : Bool :=
  match pre.getLast? with
  | none => true
  | some p => sLt p.hold a.hold
def asksGo (c : Int) (pre : List Ask) : List Ask → Bool
  | [] => true
  | a :: r => askOk c a && (ascA pre a && asksGo c (pre ++ [a]) r)
def asksOk (l : List Ask) (c : Int) : Bool := decide (l.length ≤ 40) && asksGo c [] l

def head114 (l : List Ask) (c : Int) (i : Nat) : St := hd [(0, .sl .bor 4 (l.map Ask.c)), (1, .int .i64 c), (7, .sl .bor 4 (l.map Ask.c)), (8, .int .i64 l.length), (9, .int .i64 i)] [] 0

def head111 (l : List Ask) (c : Int) (i : Nat) : St := hd [(0, .sl .bor 4 (l.map Ask.c)), (1, .int .i64 c), (5, .int .i64 i)] [] 0

structure Mate.small (m : Mate) : Prop where
  wants : m.wants.length ≤ 1048576
  runs : m.runs.length ≤ 1048576
  asks : m.asks.length ≤ 1048576
  gives : m.gives.length ≤ 1048576

/-- The parts of a mate, each alone. -/
def mateParts (m : Mate) : Bool :=
  isName m.name && (inR m.clock 0 1000000 && (inR m.seen 0 1000000 && (wantsOk m.wants && ((m.known || m.wants.isEmpty) && (runsOk m.runs m.clock && (asksOk m.asks m.clock && asksOk m.gives m.clock))))))
def apartGo (gives : List Ask) (l : List Ask) : Bool := l.all fun a => decide (askAt gives a.hold < 0)
def downRuns (l : List Run) : Bool := l.all fun r => alive r || !sEq r.want.hold ⟨#[]⟩
def mateDown (m : Mate) : Bool := !m.known && ((m.asks.isEmpty && m.gives.isEmpty) && (m.seen == 0 && downRuns m.runs))
def mateValid (m : Mate) : Bool := mateParts m && (apartGo m.gives m.asks && (m.up || mateDown m))

def head28a (m : Mate) (i : Nat) : St := hd [(1, .ptr 0 0 0), (65, .sl .bor 4 (m.asks.map Ask.c)), (66, .int .i64 m.asks.length), (67, .int .i64 i)] [.box (m.c .bor)] 0
def head28b (m : Mate) (i : Nat) : St := hd [(99, .sl .bor 11 (m.runs.map Run.c)), (100, .int .i64 m.runs.length), (101, .int .i64 i)] [] 0

def head29a (m : Mate) (i : Nat) : St := hd [(1, .ptr 0 0 0), (3, .int .i64 i)] [.box (m.c .bor)] 0
def head29b (m : Mate) (i : Nat) : St := hd [(1, .ptr 0 0 0), (4, .int .i64 i)] [.box (m.c .bor)] 0

end Go.Proofs.YtaikddhcplfpmaaGreatDoor

namespace Go.Proofs.YtaikddhcplfpmaaGreatDoor
open Go
set_option linter.unusedSimpArgs false
set_option maxRecDepth 100000

def grantOk (t : Int) (g : Grant) : Bool := isHold g.hold && (isName g.berth && (isName g.copy && (inR g.at_ 0 1000000 && inR g.til 0 (IntKind.i64.wrap (t + 32)))))
def ascG (pre : List Grant) (g : Grant) : Bool :=
  match pre.getLast? with
  | none => true
  | some p => sLt p.hold g.hold
def grantsGo (t : Int) (pre : List Grant) : List Grant → Bool
  | [] => true
  | g :: r => grantOk t g && (ascG pre g && grantsGo t (pre ++ [g]) r)
def ascP (pre : List Place) (p : Place) : Bool :=
  match pre.getLast? with
  | none => true
  | some q => sLt q.berth p.berth
def heldIn (pre : List Place) (k : T) : Bool := heldB (pre.flatMap Place.wants) k
def freshP (pre : List Place) (p : Place) : Bool := p.wants.all fun w => sEq w.hold ⟨#[]⟩ || !heldIn pre w.hold
def placeOk (p : Place) : Bool := isName p.berth && (inR p.seen 1 1000000 && wantsOk p.wants)
def placesGo (pre : List Place) : List Place → Bool
  | [] => true
  | p :: r => placeOk p && (ascP pre p && (freshP pre p && placesGo (pre ++ [p]) r))
def landOk (l : Land) : Bool :=
  inR l.time 0 2000000 && (decide (l.time.tmod 2 = 0) && (decide (l.grants.length ≤ 40) && (decide (l.places.length ≤ 4) && (grantsGo l.time [] l.grants && placesGo [] l.places))))

structure Place.small (p : Place) : Prop where
  wants : p.wants.length ≤ 1048576
structure Land.small (l : Land) : Prop where
  grants : l.grants.length ≤ 1048576
  places : l.places.length ≤ 1048576
  each : ∀ p ∈ l.places, p.small

/-- In wants that are ok no hold comes twice. -/
theorem wantsGo_fresh : ∀ (r pre : List Want), wantsGo pre r = true → ∀ j w, r[j]? = some w → freshW (pre ++ r.take j) w = true
  | [], _, _, j, w, h => by simp at h
  | a :: r, pre, hg, j, w, h => by
    simp only [wantsGo, Bool.and_eq_true] at hg
    cases j with
    | zero => simp at h; subst h; simpa using hg.2.2.1
    | succ j =>
      have := wantsGo_fresh r (pre ++ [a]) hg.2.2.2 j w (by simpa using h)
      simpa using this

theorem wantsOk_fresh {ws : List Want} (h : wantsOk ws = true) {j : Nat} {w : Want} (hw : ws[j]? = some w) (hne : sEq w.hold ⟨#[]⟩ = false) : heldB (ws.take j) w.hold = false := by
  unfold wantsOk at h
  rw [Bool.and_eq_true] at h
  have := wantsGo_fresh ws [] h.2 j w hw
  simp only [List.nil_append, freshW, hne, Bool.false_or, Bool.not_eq_true'] at this
  exact this

theorem heldB_append (a b : List Want) (k : T) : heldB (a ++ b) k = (heldB a k || heldB b k) := by simp [heldB]
theorem heldMap_append (a b : List Want) : heldMap (a ++ b) = b.foldl (fun m w => mapPut w.hold (.bool true) m) (heldMap a) := by simp [heldMap]

def head23g (l : Land) (m : Md) (i : Nat) : St := hd [(1, .ptr 0 0 0), (33, .sl .bor 5 (l.grants.map Grant.c)), (34, .int .i64 l.grants.length), (35, .int .i64 i)] [.box (l.c .bor m)] 0
def head23p (l : Land) (m : Md) (i : Nat) : St := hd [(1, .ptr 0 0 0), (5, .mapr 1), (90, .sl .bor 3 (l.places.map (Place.c m))), (91, .int .i64 l.places.length), (92, .int .i64 i)]
  [.box (l.c .bor m), .map false (heldMap ((l.places.take i).flatMap Place.wants))] 0
def head23w (l : Land) (m : Md) (i : Nat) (ws : List Want) (j : Nat) : St := hd [(1, .ptr 0 0 0), (5, .mapr 1), (90, .sl .bor 3 (l.places.map (Place.c m))), (91, .int .i64 l.places.length), (92, .int .i64 i), (130, .sl .bor 7 (ws.map Want.c)), (131, .int .i64 ws.length), (132, .int .i64 j)]
  [.box (l.c .bor m), .map false (heldMap ((l.places.take i).flatMap Place.wants ++ ws.take j))] 0

def cw (w x : Want) : Bool := !sEq w.hold ⟨#[]⟩ && sEq w.hold x.hold
theorem freshP_any (pre : List Place) (p : Place) : (!(pre.any fun q => p.wants.any fun w => q.wants.any (cw w))) = freshP pre p := by
  rw [Bool.eq_iff_iff, Bool.not_eq_true', List.any_eq_false]
  unfold freshP
  rw [List.all_eq_true]
  constructor
  · intro h w hw
    cases h1 : sEq w.hold ⟨#[]⟩
    · simp only [Bool.false_or, Bool.not_eq_true', heldIn, heldB, List.any_eq_false, List.mem_flatMap]
      rintro x ⟨q, hq, hx⟩ h2
      apply h q hq
      rw [List.any_eq_true]
      refine ⟨w, hw, ?_⟩
      rw [List.any_eq_true]
      exact ⟨x, hx, by simp [cw, h1]; rw [sEq_comm]; exact h2⟩
    · rfl
  · intro h q hq h2
    obtain ⟨w, hw, h3⟩ := List.any_eq_true.1 h2
    obtain ⟨x, hx, h4⟩ := List.any_eq_true.1 h3
    simp only [cw, Bool.and_eq_true, Bool.not_eq_true'] at h4
    have h5 := h w hw
    rw [h4.1] at h5
    simp only [Bool.false_or, Bool.not_eq_true', heldIn, heldB, List.any_eq_false, List.mem_flatMap] at h5
    exact h5 x ⟨q, hq, hx⟩ (by rw [sEq_comm]; exact h4.2)

def head99 (ps : List Place) (m : Md) (i : Nat) : St := hd [(0, .sl .bor 3 (ps.map (Place.c m))), (3, .int .i64 i)] [] 0
def head99k (ps : List Place) (m : Md) (i : Nat) (p : Place) (k : Nat) : St := hd [(0, .sl .bor 3 (ps.map (Place.c m))), (3, .int .i64 i), (4, .ptr 0 0 0), (5, .int .i64 k)] [.box (p.c .bor)] 0
def head99j (ps : List Place) (m : Md) (i : Nat) (p : Place) (k j : Nat) : St := hd [(0, .sl .bor 3 (ps.map (Place.c m))), (3, .int .i64 i), (4, .ptr 0 0 0), (5, .int .i64 k), (6, .int .i64 j)] [.box (p.c .bor)] 0
def head99n (ps : List Place) (m : Md) (i : Nat) (p : Place) (k j n : Nat) : St := hd [(0, .sl .bor 3 (ps.map (Place.c m))), (3, .int .i64 i), (4, .ptr 0 0 0), (5, .int .i64 k), (6, .int .i64 j), (7, .int .i64 n)] [.box (p.c .bor)] 0

def head24 (l : Land) (m : Md) (i : Nat) : St := hd [(1, .ptr 0 0 0), (3, .int .i64 i)] [.box (l.c .bor m)] 0

theorem prevOr {α : Type} {xs : List α} {i : Nat} (hi : i < xs.length) (hm : xs.length ≤ 9223372036854775807) : (¬ 0 < i ∧ (xs.take i).getLast? = none) ∨ ∃ j : Nat, 0 < i ∧ IntKind.i64.wrap ((i : Int) - 1) = (j : Int) ∧ ∃ h : j < xs.length, (xs.take i).getLast? = some (xs[j]'h) := by
  by_cases hz : i = 0
  · left; exact ⟨by omega, by rw [hz]; rfl⟩
  · right; exact prev hi hm hz

end Go.Proofs.YtaikddhcplfpmaaGreatDoor

namespace Go.Proofs.YtaikddhcplfpmaaGreatDoor
open Go
set_option linter.unusedSimpArgs false
set_option maxRecDepth 100000

def ascM (pre : List Mate) (m : Mate) : Bool :=
  match pre.getLast? with
  | none => true
  | some p => sLt p.name m.name
def matesGo (pre : List Mate) : List Mate → Bool
  | [] => true
  | m :: r => mateValid m && (ascM pre m && matesGo (pre ++ [m]) r)
def worldOk (w : Wld) : Bool := landOk w.land && (decide (1 ≤ w.mates.length) && (decide (w.mates.length ≤ 4) && (decide (w.flight.length ≤ 300) && matesGo [] w.mates)))

structure Wld.small (w : Wld) : Prop where
  land : w.land.small
  mates : w.mates.length ≤ 1048576
  each : ∀ m ∈ w.mates, m.small
  flight : w.flight.length ≤ 1048576

def head57 (w : Wld) (mm : Md) (i : Nat) : St := hd [(1, .ptr 0 0 0), (28, .sl .bor 9 (w.mates.map (Mate.c mm))), (29, .int .i64 w.mates.length), (30, .int .i64 i)] [.box (w.c .bor mm)] 0

def head58 (w : Wld) (mm : Md) (i : Nat) : St := hd [(1, .ptr 0 0 0), (3, .int .i64 i)] [.box (w.c .bor mm)] 0

end Go.Proofs.YtaikddhcplfpmaaGreatDoor

namespace Go.Proofs.YtaikddhcplfpmaaGreatDoor
open Go
set_option linter.unusedSimpArgs false
set_option maxRecDepth 100000

/-- The machine's watchdog, on one run. -/
def wd (c : Int) (r : Run) : Run := if alive r && !leased r c then { r with state := 2, left := 0 } else r

/-- An array of the call's own that is filled from nothing: nil at first. -/
def ownV (sz : Nat) (xs : List (List AV)) : AV := match xs with
  | [] => .sl .own sz []
  | _ => .ref 0
def ownH (sz : Nat) (xs : List (List AV)) : List AO := match xs with
  | [] => []
  | xs => [.arr sz xs]
@[simp] theorem ownV_nil (sz : Nat) : ownV sz [] = .sl .own sz [] := rfl
@[simp] theorem ownH_nil (sz : Nat) : ownH sz [] = [] := rfl
@[simp] theorem ownV_cons (sz : Nat) (x : List AV) (xs : List (List AV)) : ownV sz (x :: xs) = .ref 0 := rfl
@[simp] theorem ownH_cons (sz : Nat) (x : List AV) (xs : List (List AV)) : ownH sz (x :: xs) = [.arr sz (x :: xs)] := rfl
@[simp] theorem ownV_snoc (sz : Nat) (x : List AV) (xs : List (List AV)) : ownV sz (xs ++ [x]) = .ref 0 := by cases xs <;> rfl
@[simp] theorem ownH_snoc (sz : Nat) (x : List AV) (xs : List (List AV)) : ownH sz (xs ++ [x]) = [.arr sz (xs ++ [x])] := by cases xs <;> rfl

def head18 (rs : List Run) (c : Int) (i : Nat) (acc : List Run) : St := hd [(1, .int .i64 c), (5, ownV 11 (acc.map Run.c)), (8, .sl .bor 11 (rs.map Run.c)), (9, .int .i64 rs.length), (10, .int .i64 i)] (ownH 11 (acc.map Run.c)) 0

def head20 (rs : List Run) (c : Int) (i : Nat) (acc : List Run) : St := hd [(0, .sl .bor 11 (rs.map Run.c)), (1, .int .i64 c), (5, .ref 0), (6, .int .i64 i)] [.arr 11 (acc.map Run.c)] 0

end Go.Proofs.YtaikddhcplfpmaaGreatDoor

namespace Go.Proofs.YtaikddhcplfpmaaGreatDoor
open Go
set_option linter.unusedSimpArgs false
set_option maxRecDepth 100000

@[simp] theorem plain_want (ws : List Want) : rowsPlain (ws.map Want.c) = true := by simp [rowsPlain]
@[simp] theorem plain_run (ws : List Run) : rowsPlain (ws.map Run.c) = true := by simp [rowsPlain]
@[simp] theorem plain_ask (ws : List Ask) : rowsPlain (ws.map Ask.c) = true := by simp [rowsPlain]
@[simp] theorem plain_grant (ws : List Grant) : rowsPlain (ws.map Grant.c) = true := by simp [rowsPlain]
@[simp] theorem plain_text (ws : List T) : rowsPlain (ws.map fun s => [.str s]) = true := by simp [rowsPlain]

def Mate.zero : Mate := ⟨⟨#[]⟩, false, 0, false, 0, [], [], [], []⟩

def mateRise (m : Mate) : Mate := if mateValid m then { m with up := m.up || decide (m.clock < 1000000) } else .zero

theorem valid_clock {m : Mate} (h : mateValid m = true) : 0 ≤ m.clock ∧ m.clock ≤ 1000000 := by
  unfold mateValid mateParts at h
  simp only [Bool.and_eq_true] at h
  have := h.1.2.1
  simpa [inR] using this

/-- What is left of a run behind a fall. -/
def fallRun (machine : Bool) (r : Run) : Option Run :=
  if alive r then (if machine then (if sEq r.want.hold ⟨#[]⟩ then none else some { r with state := 2, left := 0 }) else some r) else none
def mateFall (m : Mate) (machine : Bool) : Mate := if mateValid m then { Mate.zero with name := m.name, clock := m.clock, runs := m.runs.filterMap (fallRun machine) } else .zero

def ownVi (id sz : Nat) (xs : List (List AV)) : AV := match xs with
  | [] => .sl .own sz []
  | _ => .ref id
@[simp] theorem ownVi_nil (id sz : Nat) : ownVi id sz [] = .sl .own sz [] := rfl
@[simp] theorem ownVi_cons (id sz : Nat) (x : List AV) (xs : List (List AV)) : ownVi id sz (x :: xs) = .ref id := rfl
@[simp] theorem ownVi_snoc (id sz : Nat) (x : List AV) (xs : List (List AV)) : ownVi id sz (xs ++ [x]) = .ref id := by cases xs <;> rfl

def zeroCells : List AV := [.str ⟨#[]⟩, .bool false, .int .i64 0, .bool false, .int .i64 0, .sl .own 7 [], .sl .own 11 [], .sl .own 4 [], .sl .own 4 []]
def fallCells (m : Mate) (acc : List Run) : List AV := [.str m.name, .bool false, .int .i64 m.clock, .bool false, .int .i64 0, .sl .own 7 [], ownVi 2 11 (acc.map Run.c), .sl .own 4 [], .sl .own 4 []]

def head36 (m : Mate) (b : Bool) (i : Nat) (acc : List Run) : St := hd [(1, .bool b), (4, .ptr 0 0 0), (5, .ptr 1 0 0), (18, .sl .bor 11 (m.runs.map Run.c)), (19, .int .i64 m.runs.length), (20, .int .i64 i)] (.box zeroCells :: .box (fallCells m acc) :: ownH 11 (acc.map Run.c)) 0

def fallCells3 (m : Mate) (acc : List Run) : List AV := [.str m.name, .bool false, .int .i64 m.clock, .bool false, .int .i64 0, .sl .own 7 [], ownVi 3 11 (acc.map Run.c), .sl .own 4 [], .sl .own 4 []]
def head32 (m : Mate) (b : Bool) (i : Nat) (acc : List Run) : St := hd [(1, .bool b), (2, .ptr 0 0 0), (4, .ptr 1 0 0), (5, .ptr 2 0 0), (6, .int .i64 i)] (.box (m.c .bor) :: .box zeroCells :: .box (fallCells3 m acc) :: ownH 11 (acc.map Run.c)) 0

theorem filterMap_len {α β : Type} (f : α → Option β) : ∀ xs : List α, (xs.filterMap f).length ≤ xs.length := fun xs => List.length_filterMap_le f xs

end Go.Proofs.YtaikddhcplfpmaaGreatDoor

namespace Go.Proofs.YtaikddhcplfpmaaGreatDoor
open Go
set_option linter.unusedSimpArgs false
set_option maxRecDepth 100000

def eqWant (a b : Want) : Bool := sEq a.copy b.copy && (a.version == b.version && (sEq a.hold b.hold && (a.pull == b.pull && (a.start == b.start && (a.dies == b.dies && a.grace == b.grace)))))
theorem eqWant_iff (a b : Want) : eqWant a b = true ↔ a = b := by
  cases a; cases b
  simp [eqWant, sEq_iff]

@[simp] theorem eqCells_want (s1 : T) (n1 : Int) (h1 : T) (p1 q1 d1 g1 : Int) (s2 : T) (n2 : Int) (h2 : T) (p2 q2 d2 g2 : Int) :
    eqCells [.s, .i, .s, .i, .i, .i, .i] [.str s1, .int .i64 n1, .str h1, .int .i64 p1, .int .i64 q1, .int .i64 d1, .int .i64 g1] [.str s2, .int .i64 n2, .str h2, .int .i64 p2, .int .i64 q2, .int .i64 d2, .int .i64 g2] =
      some (eqWant ⟨s1, n1, h1, p1, q1, d1, g1⟩ ⟨s2, n2, h2, p2, q2, d2, g2⟩) := by
  simp only [eqCells, eqCell, eqWant, if_true, List.length_cons, List.length_nil, and_self]
  cases sEq s1 s2 <;> simp only [Bool.false_and, Bool.true_and]
  cases n1 == n2 <;> simp only [Bool.false_and, Bool.true_and]
  cases sEq h1 h2 <;> simp only [Bool.false_and, Bool.true_and]
  cases p1 == p2 <;> simp only [Bool.false_and, Bool.true_and]
  cases q1 == q2 <;> simp only [Bool.false_and, Bool.true_and]
  cases d1 == d2 <;> simp only [Bool.false_and, Bool.true_and]
  cases g1 == g2 <;> rfl

def sameGo : List Want → List Want → Bool
  | a :: as, b :: bs => eqWant a b && sameGo as bs
  | _, _ => true
def sameWants (a b : List Want) : Bool := decide (a.length = b.length) && sameGo a b

def head138 (a b : List Want) (i : Nat) : St := hd [(0, .sl .bor 7 (a.map Want.c)), (1, .sl .bor 7 (b.map Want.c)), (5, .int .i64 i)] [] 0

/-- What a berth is to run: of the last place of its name. -/
def wantsFor (name : T) (acc : List Want) : List Place → List Want
  | [] => acc
  | p :: r => wantsFor name (if sEq p.berth name then p.wants else acc) r
def runsAre : List Run → List Want → Bool
  | r :: rs, w :: ws => eqWant r.want w && (r.state == 4 && runsAre rs ws)
  | _, _ => true
def settledRuns (up : Bool) (rs : List Run) (ws : List Want) : Bool := up && (decide (rs.length = ws.length) && runsAre rs ws)
def settledMate (ps : List Place) (m : Mate) : Bool := settledRuns m.up m.runs (wantsFor m.name [] ps)
def settled (w : Wld) : Bool := worldOk w && w.mates.all (settledMate w.land.places)

def wantV (acc : Option (List Want)) : AV := match acc with
  | none => .sl .own 7 []
  | some ws => .sl .bor 7 (ws.map Want.c)

def head68m (w : Wld) (mm : Md) (i : Nat) : St := hd [(1, .ptr 0 0 0), (14, .sl .bor 9 (w.mates.map (Mate.c mm))), (15, .int .i64 w.mates.length), (16, .int .i64 i)] [.box (w.c .bor mm)] 0
def head68p (w : Wld) (mm : Md) (i : Nat) (m : Mate) (j : Nat) (acc : Option (List Want)) : St := hd [(1, .ptr 0 0 0), (4, .ptr 1 0 0), (5, wantV acc), (14, .sl .bor 9 (w.mates.map (Mate.c mm))), (15, .int .i64 w.mates.length), (16, .int .i64 i), (22, .sl .bor 3 (w.land.places.map (Place.c mm))), (23, .int .i64 w.land.places.length), (24, .int .i64 j)] [.box (w.c .bor mm), .box (m.c .bor)] 0
def head68r (w : Wld) (mm : Md) (i : Nat) (m : Mate) (ws : List Want) (j : Nat) : St := hd [(1, .ptr 0 0 0), (5, .sl .bor 7 (ws.map Want.c)), (14, .sl .bor 9 (w.mates.map (Mate.c mm))), (15, .int .i64 w.mates.length), (16, .int .i64 i), (48, .sl .bor 11 (m.runs.map Run.c)), (49, .int .i64 m.runs.length), (50, .int .i64 j)] [.box (w.c .bor mm)] 0
def head68e (w : Wld) (mm : Md) (i : Nat) : St := hd [(1, .ptr 0 0 0), (5, .sl .own 7 []), (14, .sl .bor 9 (w.mates.map (Mate.c mm))), (15, .int .i64 w.mates.length), (16, .int .i64 i), (48, .sl .bor 11 []), (49, .int .i64 0), (50, .int .i64 0)] [.box (w.c .bor mm)] 0

theorem runsAre_same : ∀ (rs : List Run) (ws : List Want), rs.length = ws.length → (rs.all (fun r => r.state == 4) && sameGo (rs.map Run.want) ws) = runsAre rs ws
  | [], [], _ => rfl
  | r :: rs, w :: ws, h => by
    have ih := runsAre_same rs ws (by simpa using h)
    simp only [List.all_cons, List.map_cons, sameGo, runsAre, ← ih]
    cases r.state == 4 <;> cases eqWant r.want w <;> cases rs.all (fun r => r.state == 4) <;> rfl
  | [], _ :: _, h => by simp at h
  | _ :: _, [], h => by simp at h

theorem settled_same (up : Bool) (rs : List Run) (ws : List Want) : (rs.all (fun r => r.state == 4) && (up && sameWants (rs.map Run.want) ws)) = settledRuns up rs ws := by
  unfold sameWants settledRuns
  rw [List.length_map]
  by_cases h : rs.length = ws.length
  · rw [← runsAre_same rs ws h]
    cases up <;> simp [h]
  · cases up <;> simp [h]

def head69m (w : Wld) (mm : Md) (i : Nat) : St := hd [(1, .ptr 0 0 0), (3, .int .i64 i)] [.box (w.c .bor mm)] 0
def wantV2 (acc : Option (List Want)) : AV := match acc with
  | none => .ref 2
  | some ws => .sl .bor 7 (ws.map Want.c)
def wantH2 (acc : Option (List Want)) : List AO := match acc with
  | none => [.arr 7 []]
  | some _ => []
def haveV (acc : Option (List Want)) : AV := match acc with
  | none => .ref 3
  | some _ => .ref 2
def head69p (w : Wld) (mm : Md) (i : Nat) (m : Mate) (j : Nat) (acc : Option (List Want)) : St := hd [(1, .ptr 0 0 0), (3, .int .i64 i), (4, .ptr 1 0 0), (5, wantV2 acc), (6, .int .i64 j)] (.box (w.c .bor mm) :: .box (m.c .bor) :: wantH2 acc) 0
def head69r (w : Wld) (mm : Md) (i : Nat) (m : Mate) (j : Nat) (acc : Option (List Want)) (hv : List Want) : St := hd [(1, .ptr 0 0 0), (3, .int .i64 i), (4, .ptr 1 0 0), (5, wantV2 acc), (7, haveV acc), (8, .int .i64 j)] (.box (w.c .bor mm) :: .box (m.c .bor) :: (wantH2 acc ++ [.arr 7 (hv.map Want.c)])) 0

end Go.Proofs.YtaikddhcplfpmaaGreatDoor

namespace Go.Proofs.YtaikddhcplfpmaaGreatDoor
open Go
set_option linter.unusedSimpArgs false
set_option maxRecDepth 100000

def Run.zero : Run := ⟨⟨⟨#[]⟩, 0, ⟨#[]⟩, 0, 0, 0, 0⟩, 0, 0, 0, 0⟩
def beginR (r : Run) (clock : Int) : Run := if leased r clock then { r with state := 3, left := r.want.start } else { r with state := 2, left := 0 }
def fallsUp (n : Int) : Int := if n < 1000 then n + 1 else n
def leftOf (f : Int) : Int := if 4 ≤ f then 16 else if f ≤ 0 then 1 else if f = 1 then 2 else if f = 2 then 4 else 8
def dies (r : Run) : Run := { r with falls := fallsUp r.falls, state := 5, left := leftOf (fallsUp r.falls) }
def mateLive (r : Run) (w : Want) (wanted : Bool) (clock : Int) : Option Run :=
  if (!wanted || !eqWant w r.want) && r.state != 6 then (if alive r then some { r with state := 6, left := r.want.grace } else none)
  else if r.state ≠ 2 ∧ 1 < r.left then some { r with left := r.left - 1 }
  else if r.state = 3 then some { r with state := 4, left := r.want.dies }
  else if r.state = 4 then (if r.left = 1 then some (dies r) else some r)
  else if r.state = 6 then none
  else if r.state = 1 ∨ r.state = 2 ∨ r.state = 5 then some (beginR r clock)
  else some r

def liveRes (r : Run) (w : Want) (wanted : Bool) (clock : Int) : AV := .tup [.agg ((mateLive r w wanted clock).getD .zero).c, .bool (mateLive r w wanted clock).isSome]

def head93 (r : Run) (f : Int) (i : Nat) : St := hd [(1, .ptr 0 0 0), (2, .ptr 1 0 0), (3, .int .i64 i)] [.box ({ r with state := 5, left := 2 ^ i, falls := f } : Run).c, .box Run.zero.c] 0

theorem leftOf_stop {f : Int} {i : Nat} (hi : i ≤ 4) (h1 : (i : Int) ≤ f ∨ i = 0) (h2 : ¬ ((i : Int) < f) ∨ i = 4) : (2 : Int) ^ i = leftOf f := by
  unfold leftOf
  rcases i with _ | _ | _ | _ | _ | i
  · have : f ≤ 0 := by omega
    rw [if_neg (by omega), if_pos this]; rfl
  · have : f = 1 := by omega
    subst this; rfl
  · have : f = 2 := by omega
    subst this; rfl
  · have : f = 3 := by omega
    subst this; rfl
  · rw [if_pos (by omega)]; rfl
  · omega

theorem shlLeft {f : Int} (h : f < 4) : IntKind.i64.wrap (2 ^ min (if f < 0 then (0 : Int) else f).toNat IntKind.i64.bits) = leftOf f := by
  unfold leftOf
  rw [if_neg (show ¬ 4 ≤ f by omega)]
  by_cases h0 : f ≤ 0
  · rw [if_pos (show f ≤ 0 from h0)]
    have : (if f < 0 then (0 : Int) else f) = 0 := by split <;> omega
    rw [this]; rfl
  rw [if_neg (show ¬ f ≤ 0 from h0), if_neg (show ¬ f < 0 by omega)]
  by_cases h1 : f = 1
  · subst h1; rfl
  by_cases h2 : f = 2
  · subst h2; rfl
  have h3 : f = 3 := by omega
  subst h3; rfl

end Go.Proofs.YtaikddhcplfpmaaGreatDoor

namespace Go.Proofs.YtaikddhcplfpmaaGreatDoor
open Go
set_option linter.unusedSimpArgs false
set_option maxRecDepth 100000

/-- One of some. -/
def selT (l : List T) (i : Int) : T := l.getD i.toNat ⟨#[]⟩
def selI (l : List Int) (i : Int) : Int := l.getD i.toNat 0

theorem toNat_cases {i : Int} {n : Nat} (h0 : 0 ≤ i) (h : i < n) : ∃ k : Nat, i = k ∧ k < n := ⟨i.toNat, by omega, by omega⟩

@[simp] theorem selT2 (a b : T) {i : Int} (h : i.toNat < [[AV.str a], [.str b]].length) : [[AV.str a], [.str b]][i.toNat]'h = [.str (selT [a, b] i)] := by
  unfold selT
  generalize i.toNat = k at h ⊢
  rcases k with _ | _ | k <;> first | rfl | (simp at h; omega)
@[simp] theorem selI2 (a b : Int) {i : Int} (h : i.toNat < [[AV.int .i64 a], [.int .i64 b]].length) : [[AV.int .i64 a], [.int .i64 b]][i.toNat]'h = [.int .i64 (selI [a, b] i)] := by
  unfold selI
  generalize i.toNat = k at h ⊢
  rcases k with _ | _ | k <;> first | rfl | (simp at h; omega)
@[simp] theorem selT3 (a b c : T) {i : Int} (h : i.toNat < [[AV.str a], [.str b], [.str c]].length) : [[AV.str a], [.str b], [.str c]][i.toNat]'h = [.str (selT [a, b, c] i)] := by
  unfold selT
  generalize i.toNat = k at h ⊢
  rcases k with _ | _ | _ | k <;> first | rfl | (simp at h; omega)
@[simp] theorem selI3 (a b c : Int) {i : Int} (h : i.toNat < [[AV.int .i64 a], [.int .i64 b], [.int .i64 c]].length) : [[AV.int .i64 a], [.int .i64 b], [.int .i64 c]][i.toNat]'h = [.int .i64 (selI [a, b, c] i)] := by
  unfold selI
  generalize i.toNat = k at h ⊢
  rcases k with _ | _ | _ | k <;> first | rfl | (simp at h; omega)
@[simp] theorem selT4 (a b c d : T) {i : Int} (h : i.toNat < [[AV.str a], [.str b], [.str c], [.str d]].length) : [[AV.str a], [.str b], [.str c], [.str d]][i.toNat]'h = [.str (selT [a, b, c, d] i)] := by
  unfold selT
  generalize i.toNat = k at h ⊢
  rcases k with _ | _ | _ | _ | k <;> first | rfl | (simp at h; omega)
@[simp] theorem selI4 (a b c d : Int) {i : Int} (h : i.toNat < [[AV.int .i64 a], [.int .i64 b], [.int .i64 c], [.int .i64 d]].length) : [[AV.int .i64 a], [.int .i64 b], [.int .i64 c], [.int .i64 d]][i.toNat]'h = [.int .i64 (selI [a, b, c, d] i)] := by
  unfold selI
  generalize i.toNat = k at h ⊢
  rcases k with _ | _ | _ | _ | k <;> first | rfl | (simp at h; omega)
@[simp] theorem selT5 (a b c d e : T) {i : Int} (h : i.toNat < [[AV.str a], [.str b], [.str c], [.str d], [.str e]].length) : [[AV.str a], [.str b], [.str c], [.str d], [.str e]][i.toNat]'h = [.str (selT [a, b, c, d, e] i)] := by
  unfold selT
  generalize i.toNat = k at h ⊢
  rcases k with _ | _ | _ | _ | _ | k <;> first | rfl | (simp at h; omega)
@[simp] theorem selI5 (a b c d e : Int) {i : Int} (h : i.toNat < [[AV.int .i64 a], [.int .i64 b], [.int .i64 c], [.int .i64 d], [.int .i64 e]].length) : [[AV.int .i64 a], [.int .i64 b], [.int .i64 c], [.int .i64 d], [.int .i64 e]][i.toNat]'h = [.int .i64 (selI [a, b, c, d, e] i)] := by
  unfold selI
  generalize i.toNat = k at h ⊢
  rcases k with _ | _ | _ | _ | _ | k <;> first | rfl | (simp at h; omega)
@[simp] theorem selT6 (a b c d e f : T) {i : Int} (h : i.toNat < [[AV.str a], [.str b], [.str c], [.str d], [.str e], [.str f]].length) : [[AV.str a], [.str b], [.str c], [.str d], [.str e], [.str f]][i.toNat]'h = [.str (selT [a, b, c, d, e, f] i)] := by
  unfold selT
  generalize i.toNat = k at h ⊢
  rcases k with _ | _ | _ | _ | _ | _ | k <;> first | rfl | (simp at h; omega)
@[simp] theorem selI6 (a b c d e f : Int) {i : Int} (h : i.toNat < [[AV.int .i64 a], [.int .i64 b], [.int .i64 c], [.int .i64 d], [.int .i64 e], [.int .i64 f]].length) : [[AV.int .i64 a], [.int .i64 b], [.int .i64 c], [.int .i64 d], [.int .i64 e], [.int .i64 f]][i.toNat]'h = [.int .i64 (selI [a, b, c, d, e, f] i)] := by
  unfold selI
  generalize i.toNat = k at h ⊢
  rcases k with _ | _ | _ | _ | _ | _ | k <;> first | rfl | (simp at h; omega)
@[simp] theorem selT7 (a b c d e f g : T) {i : Int} (h : i.toNat < [[AV.str a], [.str b], [.str c], [.str d], [.str e], [.str f], [.str g]].length) : [[AV.str a], [.str b], [.str c], [.str d], [.str e], [.str f], [.str g]][i.toNat]'h = [.str (selT [a, b, c, d, e, f, g] i)] := by
  unfold selT
  generalize i.toNat = k at h ⊢
  rcases k with _ | _ | _ | _ | _ | _ | _ | k <;> first | rfl | (simp at h; omega)
@[simp] theorem selI7 (a b c d e f g : Int) {i : Int} (h : i.toNat < [[AV.int .i64 a], [.int .i64 b], [.int .i64 c], [.int .i64 d], [.int .i64 e], [.int .i64 f], [.int .i64 g]].length) : [[AV.int .i64 a], [.int .i64 b], [.int .i64 c], [.int .i64 d], [.int .i64 e], [.int .i64 f], [.int .i64 g]][i.toNat]'h = [.int .i64 (selI [a, b, c, d, e, f, g] i)] := by
  unfold selI
  generalize i.toNat = k at h ⊢
  rcases k with _ | _ | _ | _ | _ | _ | _ | k <;> first | rfl | (simp at h; omega)
@[simp] theorem selT8 (a b c d e f g u : T) {i : Int} (h : i.toNat < [[AV.str a], [.str b], [.str c], [.str d], [.str e], [.str f], [.str g], [.str u]].length) : [[AV.str a], [.str b], [.str c], [.str d], [.str e], [.str f], [.str g], [.str u]][i.toNat]'h = [.str (selT [a, b, c, d, e, f, g, u] i)] := by
  unfold selT
  generalize i.toNat = k at h ⊢
  rcases k with _ | _ | _ | _ | _ | _ | _ | _ | k <;> first | rfl | (simp at h; omega)
@[simp] theorem selI8 (a b c d e f g u : Int) {i : Int} (h : i.toNat < [[AV.int .i64 a], [.int .i64 b], [.int .i64 c], [.int .i64 d], [.int .i64 e], [.int .i64 f], [.int .i64 g], [.int .i64 u]].length) : [[AV.int .i64 a], [.int .i64 b], [.int .i64 c], [.int .i64 d], [.int .i64 e], [.int .i64 f], [.int .i64 g], [.int .i64 u]][i.toNat]'h = [.int .i64 (selI [a, b, c, d, e, f, g, u] i)] := by
  unfold selI
  generalize i.toNat = k at h ⊢
  rcases k with _ | _ | _ | _ | _ | _ | _ | _ | k <;> first | rfl | (simp at h; omega)

noncomputable def drawWant (bs : List Int) (p : Int) (copy : T) : Want :=
  ⟨copy, 1 + pickV bs p 3, selT [⟨#[]⟩, ⟨#[118, 111, 108]⟩, ⟨#[105, 112]⟩, ⟨#[118, 111, 108, 50]⟩] (pickV bs (p + 1) 4), pickV bs (p + 2) 4, pickV bs (p + 3) 3, selI [0, 0, 0, 1, 3, 8] (pickV bs (p + 4) 6), pickV bs (p + 5) 4⟩

theorem law87 (bs : List Int) (p : Int) (copy : T) (hb : Code bs) (h0 : 0 ≤ p) (hp : p ≤ 100000000000) : F 87 [.ptr 0 0 0, .str copy] [rdBox bs p] = some (.agg (drawWant bs p copy).c, [some (rdBox bs (p + 6))]) := by
  refine F_run fn87 rfl ?_
  obtain ⟨a1, a2, a3⟩ := law89 bs p 3 hb h0 (by omega) (by omega)
  obtain ⟨b1, b2, b3⟩ := law89 bs (p + 1) 4 hb (by omega) (by omega) (by omega)
  obtain ⟨c1, c2, c3⟩ := law89 bs (p + 2) 4 hb (by omega) (by omega) (by omega)
  obtain ⟨d1, d2, d3⟩ := law89 bs (p + 3) 3 hb (by omega) (by omega) (by omega)
  obtain ⟨e1, e2, e3⟩ := law89 bs (p + 4) 6 hb (by omega) (by omega) (by omega)
  obtain ⟨f1, f2, f3⟩ := law89 bs (p + 5) 4 hb (by omega) (by omega) (by omega)
  rw [show p + 1 + 1 = p + 2 by omega] at b1
  rw [show p + 2 + 1 = p + 3 by omega] at c1
  rw [show p + 3 + 1 = p + 4 by omega] at d1
  rw [show p + 4 + 1 = p + 5 by omega] at e1
  rw [show p + 5 + 1 = p + 6 by omega] at f1
  have hu : IntKind.i64.wrap (1 + pickV bs p 3) = 1 + pickV bs p 3 := i64w (by omega) (by have := a3 (by omega); omega)
  have b4 := b3 (by omega)
  have e4 := e3 (by omega)
  simp only [rdBox] at a1 b1 c1 d1 e1 f1 ⊢
  simp [c87, a1, b1, c1, d1, e1, f1, b2, b4, e2, e4, hu, drawWant]

/-! ### Drawn values are of moderate size -/
def tame (n : Int) : Prop := -100000000 ≤ n ∧ n ≤ 100000000
structure Want.tame (w : Want) : Prop where
  copy : w.copy.size ≤ 1000
  version : YtaikddhcplfpmaaGreatDoor.tame w.version
  hold : w.hold.size ≤ 1000
  pull : YtaikddhcplfpmaaGreatDoor.tame w.pull
  start : YtaikddhcplfpmaaGreatDoor.tame w.start
  dies : YtaikddhcplfpmaaGreatDoor.tame w.dies
  grace : YtaikddhcplfpmaaGreatDoor.tame w.grace
structure Run.tame (r : Run) : Prop where
  want : r.want.tame
  state : YtaikddhcplfpmaaGreatDoor.tame r.state
  left : YtaikddhcplfpmaaGreatDoor.tame r.left
  falls : YtaikddhcplfpmaaGreatDoor.tame r.falls
  til : YtaikddhcplfpmaaGreatDoor.tame r.til

theorem selT_le {l : List T} {n : Nat} (h : ∀ x ∈ l, x.size ≤ n) (i : Int) : (selT l i).size ≤ n := by
  unfold selT
  rw [List.getD_eq_getElem?_getD]
  cases e : l[i.toNat]? with
  | none => exact Nat.zero_le _
  | some x => exact h x (List.mem_of_getElem? e)
theorem selI_tame {l : List Int} (h : ∀ x ∈ l, tame x) (i : Int) : tame (selI l i) := by
  unfold selI
  rw [List.getD_eq_getElem?_getD]
  cases e : l[i.toNat]? with
  | none => exact ⟨by simp, by simp⟩
  | some x => exact h x (List.mem_of_getElem? e)
theorem pick_tame {x n : Int} (h0 : 0 ≤ x) (h : x < n) (hn : n ≤ 100000000) : tame x := ⟨by omega, by omega⟩

theorem drawWant_tame {bs : List Int} {p : Int} {copy : T} (hb : Code bs) (h0 : 0 ≤ p) (hp : p ≤ 100000000000) (hc : copy.size ≤ 1000) : (drawWant bs p copy).tame := by
  obtain ⟨_, a2, a3⟩ := law89 bs p 3 hb h0 (by omega) (by omega)
  obtain ⟨_, c2, c3⟩ := law89 bs (p + 2) 4 hb (by omega) (by omega) (by omega)
  obtain ⟨_, d2, d3⟩ := law89 bs (p + 3) 3 hb (by omega) (by omega) (by omega)
  obtain ⟨_, f2, f3⟩ := law89 bs (p + 5) 4 hb (by omega) (by omega) (by omega)
  have a4 := a3 (by omega)
  have c4 := c3 (by omega)
  have d4 := d3 (by omega)
  have f4 := f3 (by omega)
  refine ⟨hc, ⟨by simp only [drawWant]; omega, by simp only [drawWant]; omega⟩, selT_le (by simp; decide) _, pick_tame c2 c4 (by omega), pick_tame d2 d4 (by omega), selI_tame (by simp [tame]) _, pick_tame f2 f4 (by omega)⟩

/-! ### A text many times -/
def headMany (s : T) (n : Int) (out : T) : St := hd [(0, .str s), (1, .int .i64 n), (5, .str out)] [] 0

def manyGo (n : Nat) (s out : T) : T := if _h : n = 0 then out else manyGo (n / 2) (s ++ s) (if n % 2 = 1 then out ++ s else out)
termination_by n
decreasing_by omega

theorem app_size (x y : T) : (x ++ y).size = x.size + y.size := ByteArray.size_append

theorem manyGo_size (n : Nat) (s out : T) : (manyGo n s out).size = out.size + s.size * n := by
  rw [manyGo]
  split
  · subst_vars; simp
  · rename_i h
    rw [manyGo_size (n / 2)]
    have e : n = 2 * (n / 2) + n % 2 := by omega
    have h2 : n % 2 < 2 := Nat.mod_lt _ (by omega)
    generalize n / 2 = q at *
    generalize n % 2 = r at *
    subst e
    rcases r with _ | _ | r
    · simp [app_size]
      rw [← Nat.mul_assoc, Nat.mul_two]
    · simp [app_size]
      rw [Nat.mul_add, ← Nat.mul_assoc, Nat.mul_two]
      omega
    · omega
termination_by n
decreasing_by omega

theorem law160 (s : T) (n : Nat) (hs : s.size ≤ 1000) (hn : n ≤ 1000000) : F 160 [.str s, .int .i64 n] [] = some (.str (manyGo n s ⟨#[]⟩), []) := by
  refine F_run fn160 rfl ?_
  simp [c160]
  refine (loop_by (σ := T × Nat × T) (fun x => headMany x.1 x.2.1 x.2.2) (fun x => x.2.1 ≤ 1000000 ∧ x.1.size * x.2.1 + x.2.2.size ≤ 1000000000) (fun x => x.2.1) (fun x => (.str (manyGo x.2.1 x.1 x.2.2), [])) (fun x Y hi hY => ?_) (s, n, ⟨#[]⟩) ?_ ⟨hn, ?_⟩ ?_).trans rfl
  · obtain ⟨s, n, out⟩ := x
    obtain ⟨h1, h2⟩ := hi
    simp only at h1 h2 hY ⊢
    rcases Nat.eq_zero_or_pos n with rfl | hp
    · have e : manyGo 0 s out = out := by rw [manyGo]; simp
      simp [headMany, c160b0, e]
    · have e : manyGo n s out = manyGo (n / 2) (s ++ s) (if n % 2 = 1 then out ++ s else out) := by rw [manyGo, dif_neg (by omega)]
      have hq : IntKind.i64.wrap ((n : Int) / 2) = ((n / 2 : Nat) : Int) := by rw [i64w (by omega) (by omega)]; omega
      have hsn : s.size ≤ s.size * n := Nat.le_mul_of_pos_right _ hp
      have g1 : s.size + s.size ≤ 9223372036854775807 := by omega
      have g2 : out.size + s.size ≤ 9223372036854775807 := by omega
      have hsz := manyGo_size n s out
      by_cases q : n % 2 = 1
      · have qi : ((n : Int).tmod 2 = 1) := by rw [Int.tmod_eq_emod_of_nonneg (by omega)]; omega
        have qi2 : ((n : Int) % 2 = 1) := by omega
        simp [headMany, c160b0, hp, e, q, qi, qi2, g1, g2]
        refine hY (s ++ s, n / 2, out ++ s) _ ⟨by simp only; omega, ?_⟩ (by simp only; omega) ?_
        · simp only [app_size]
          have e2 : n = 2 * (n / 2) + 1 := by omega
          generalize n / 2 = k at *
          subst e2
          have : s.size * (2 * k + 1) = (s.size + s.size) * k + s.size := by rw [Nat.mul_add, ← Nat.mul_assoc, Nat.mul_two, Nat.mul_one]
          omega
        · simp [headMany, hq]
      · have qi : ¬ ((n : Int).tmod 2 = 1) := by rw [Int.tmod_eq_emod_of_nonneg (by omega)]; omega
        have qi2 : ¬ ((n : Int) % 2 = 1) := by omega
        simp [headMany, c160b0, hp, e, q, qi, qi2, g1]
        refine hY (s ++ s, n / 2, out) _ ⟨by simp only; omega, ?_⟩ (by simp only; omega) ?_
        · simp only [app_size]
          have e2 : n = 2 * (n / 2) := by omega
          generalize n / 2 = k at *
          subst e2
          have : s.size * (2 * k) = (s.size + s.size) * k := by rw [← Nat.mul_assoc, Nat.mul_two]
          omega
        · simp [headMany, hq]
  · simp [headMany]
  · have : s.size * n ≤ 1000 * 1000000 := Nat.mul_le_mul hs hn
    show s.size * n + (⟨#[]⟩ : T).size ≤ 1000000000
    have h0 : (⟨#[]⟩ : T).size = 0 := rfl
    omega
  · unfold big; simp only; omega
theorem law144 (bs : List Int) (p : Int) (w : Want) (hb : Code bs) (h0 : 0 ≤ p) (hp : p ≤ 100000000000) (hw : w.tame) :
    ∃ w' p', F 144 [.ptr 0 0 0, .agg w.c] [rdBox bs p] = some (.agg w'.c, [some (rdBox bs p')]) ∧ p ≤ p' ∧ p' ≤ p + 3 ∧ Want.tame w' := by
  obtain ⟨a1, a2, a3⟩ := law89 bs p 7 hb h0 (by omega) (by omega)
  obtain ⟨b1, b2, b3⟩ := law89 bs (p + 1) 3 hb (by omega) (by omega) (by omega)
  rw [show p + 1 + 1 = p + 2 by omega] at b1
  have b4 := b3 (by omega)
  obtain ⟨hw1, hw2, hw3, hw4, hw5, hw6, hw7⟩ := hw
  simp only [rdBox] at a1 b1 ⊢
  by_cases k0 : pickV bs p 7 = 0
  · obtain ⟨c1, c2, c3⟩ := law89 bs (p + 1) 2 hb (by omega) (by omega) (by omega)
    obtain ⟨d1, d2, d3⟩ := law89 bs (p + 2) 3 hb (by omega) (by omega) (by omega)
    rw [show p + 1 + 1 = p + 2 by omega] at c1
    rw [show p + 2 + 1 = p + 3 by omega] at d1
    have c4 := c3 (by omega)
    have d4 := d3 (by omega)
    obtain ⟨n, hn, hn2⟩ := toNat_cases (i := 20 + pickV bs (p + 1) 2) (n := 100) (by omega) (by omega)
    have hu : IntKind.i64.wrap (20 + pickV bs (p + 1) 2) = n := by rw [i64w (by omega) (by omega)]; exact hn
    have e1 := law160 ⟨#[110]⟩ n (by decide) (by omega)
    have e2 := manyGo_size n ⟨#[110]⟩ ⟨#[]⟩
    have e3 : (manyGo n ⟨#[110]⟩ ⟨#[]⟩).size ≤ 1000 := by
      rw [e2]
      show 0 + 1 * n ≤ 1000
      omega
    refine ⟨{ w with copy := selT [⟨#[]⟩, ⟨#[120, 32, 121]⟩, manyGo n ⟨#[110]⟩ ⟨#[]⟩] (pickV bs (p + 2) 3) }, p + 3, F_run fn144 rfl ?_, by omega, by omega, ⟨selT_le ?_ _, hw2, hw3, hw4, hw5, hw6, hw7⟩⟩
    · simp only [rdBox] at c1 d1
      simp [c144, a1, k0, c1, d1, d2, d4, hu, e1]
    · intro x hx
      rcases List.mem_cons.1 hx with rfl | hx
      · decide
      rcases List.mem_cons.1 hx with rfl | hx
      · decide
      rw [List.mem_singleton.1 hx]
      exact e3
  by_cases k1 : pickV bs p 7 = 1
  · refine ⟨{ w with version := selI [0, 1000000, 1000001] (pickV bs (p + 1) 3) }, p + 2, F_run fn144 rfl ?_, by omega, by omega, ⟨hw1, selI_tame (by simp [tame]) _, hw3, hw4, hw5, hw6, hw7⟩⟩
    simp [c144, a1, k0, k1, b1, b2, b4]
  by_cases k2 : pickV bs p 7 = 2
  · refine ⟨{ w with hold := selT [⟨#[120, 32, 121]⟩, ⟨#[42]⟩, ⟨#[118, 111, 108]⟩] (pickV bs (p + 1) 3) }, p + 2, F_run fn144 rfl ?_, by omega, by omega, ⟨hw1, hw2, selT_le (by simp; decide) _, hw4, hw5, hw6, hw7⟩⟩
    simp [c144, a1, k0, k1, k2, b1, b2, b4]
  by_cases k3 : pickV bs p 7 = 3
  · refine ⟨{ w with pull := selI [-1, 100, 101] (pickV bs (p + 1) 3) }, p + 2, F_run fn144 rfl ?_, by omega, by omega, ⟨hw1, hw2, hw3, selI_tame (by simp [tame]) _, hw5, hw6, hw7⟩⟩
    simp [c144, a1, k0, k1, k2, k3, b1, b2, b4]
  by_cases k4 : pickV bs p 7 = 4
  · refine ⟨{ w with start := selI [-1, 100, 101] (pickV bs (p + 1) 3) }, p + 2, F_run fn144 rfl ?_, by omega, by omega, ⟨hw1, hw2, hw3, hw4, selI_tame (by simp [tame]) _, hw6, hw7⟩⟩
    simp [c144, a1, k0, k1, k2, k3, k4, b1, b2, b4]
  by_cases k5 : pickV bs p 7 = 5
  · refine ⟨{ w with dies := selI [-1, 100, 101] (pickV bs (p + 1) 3) }, p + 2, F_run fn144 rfl ?_, by omega, by omega, ⟨hw1, hw2, hw3, hw4, hw5, selI_tame (by simp [tame]) _, hw7⟩⟩
    simp [c144, a1, k0, k1, k2, k3, k4, k5, b1, b2, b4]
  · refine ⟨{ w with grace := selI [-1, 100, 101] (pickV bs (p + 1) 3) }, p + 2, F_run fn144 rfl ?_, by omega, by omega, ⟨hw1, hw2, hw3, hw4, hw5, hw6, selI_tame (by simp [tame]) _⟩⟩
    simp [c144, a1, k0, k1, k2, k3, k4, k5, b1, b2, b4]
theorem law90 (bs : List Int) (p : Int) (copy : T) (clock : Int) (hb : Code bs) (h0 : 0 ≤ p) (hp : p ≤ 10000000000) (hc : copy.size ≤ 1000) (hk : 0 ≤ clock ∧ clock ≤ 10000000) :
    ∃ r' p', F 90 [.ptr 0 0 0, .str copy, .int .i64 clock] [rdBox bs p] = some (.agg r'.c, [some (rdBox bs p')]) ∧ p ≤ p' ∧ p' ≤ p + 10 ∧ Run.tame r' := by
  have w0 := law87 bs p copy hb h0 (by omega)
  have w1 := drawWant_tame (p := p) hb h0 (by omega) hc
  generalize drawWant bs p copy = w at w0 w1
  obtain ⟨b1, b2, b3⟩ := law89 bs (p + 6) 6 hb (by omega) (by omega) (by omega)
  obtain ⟨c1, c2, c3⟩ := law89 bs (p + 7) 5 hb (by omega) (by omega) (by omega)
  obtain ⟨d1, d2, d3⟩ := law89 bs (p + 8) 6 hb (by omega) (by omega) (by omega)
  obtain ⟨e1, e2, e3⟩ := law89 bs (p + 9) 14 hb (by omega) (by omega) (by omega)
  rw [show p + 6 + 1 = p + 7 by omega] at b1
  rw [show p + 7 + 1 = p + 8 by omega] at c1
  rw [show p + 8 + 1 = p + 9 by omega] at d1
  rw [show p + 9 + 1 = p + 10 by omega] at e1
  have b4 := b3 (by omega)
  have c4 := c3 (by omega)
  have d4 := d3 (by omega)
  have e4 := e3 (by omega)
  generalize pickV bs (p + 6) 6 = x1 at *
  generalize pickV bs (p + 7) 5 = x2 at *
  generalize pickV bs (p + 8) 6 = x3 at *
  generalize pickV bs (p + 9) 14 = x4 at *
  have u1 : IntKind.i64.wrap (1 + x1) = 1 + x1 := i64w (by omega) (by omega)
  have u0 : IntKind.i64.wrap 2 = 2 := i64w (by omega) (by omega)
  have u2 : IntKind.i64.wrap (clock + x4) = clock + x4 := i64w (by omega) (by omega)
  have u3 : IntKind.i64.wrap (clock + x4 - 4) = clock + x4 - 4 := i64w (by omega) (by omega)
  simp only [rdBox, Want.c] at w0 b1 c1 d1 e1 ⊢
  have t1 : tame (1 + x1) := ⟨by omega, by omega⟩
  have t3 : tame x3 := ⟨by omega, by omega⟩
  have t2 : tame x2 := ⟨by omega, by omega⟩
  have t0 : tame 0 := ⟨by omega, by omega⟩
  have t4 : tame (clock + x4 - 4) := ⟨by omega, by omega⟩
  by_cases q1 : sEq w.hold ⟨#[]⟩ = true
  · by_cases q2 : 1 + x1 = 2
    · refine ⟨⟨w, 1 + x1, 0, x3, 0⟩, p + 9, F_run fn90 rfl ?_, by omega, by omega, ⟨w1, t1, t0, t3, t0⟩⟩
      simp [c90, w0, b1, c1, d1, u0, u1, q1, q2]
    · refine ⟨⟨w, 1 + x1, x2, x3, 0⟩, p + 9, F_run fn90 rfl ?_, by omega, by omega, ⟨w1, t1, t2, t3, t0⟩⟩
      simp [c90, w0, b1, c1, d1, u0, u1, q1, q2]
  · simp only [Bool.not_eq_true] at q1
    by_cases q3 : clock + x4 - 4 < 0
    · by_cases q2 : 1 + x1 = 2
      · refine ⟨⟨w, 1 + x1, 0, x3, 0⟩, p + 10, F_run fn90 rfl ?_, by omega, by omega, ⟨w1, t1, t0, t3, t0⟩⟩
        simp [c90, w0, b1, c1, d1, e1, u0, u1, u2, u3, q1, q2, q3]
      · refine ⟨⟨w, 1 + x1, x2, x3, 0⟩, p + 10, F_run fn90 rfl ?_, by omega, by omega, ⟨w1, t1, t2, t3, t0⟩⟩
        simp [c90, w0, b1, c1, d1, e1, u0, u1, u2, u3, q1, q2, q3]
    · by_cases q2 : 1 + x1 = 2
      · refine ⟨⟨w, 1 + x1, 0, x3, clock + x4 - 4⟩, p + 10, F_run fn90 rfl ?_, by omega, by omega, ⟨w1, t1, t0, t3, t4⟩⟩
        simp [c90, w0, b1, c1, d1, e1, u0, u1, u2, u3, q1, q2, q3]
      · refine ⟨⟨w, 1 + x1, x2, x3, clock + x4 - 4⟩, p + 10, F_run fn90 rfl ?_, by omega, by omega, ⟨w1, t1, t2, t3, t4⟩⟩
        simp [c90, w0, b1, c1, d1, e1, u0, u1, u2, u3, q1, q2, q3]

theorem law88 (bs : List Int) (p : Int) (r : Run) (hb : Code bs) (h0 : 0 ≤ p) (hp : p ≤ 10000000000) (hr : r.tame) :
    ∃ r' p', F 88 [.ptr 0 0 0, .agg r.c] [rdBox bs p] = some (.agg r'.c, [some (rdBox bs p')]) ∧ p ≤ p' ∧ p' ≤ p + 5 ∧ Run.tame r' := by
  obtain ⟨a1, a2, a3⟩ := law89 bs p 6 hb h0 (by omega) (by omega)
  obtain ⟨b1, b2, b3⟩ := law89 bs (p + 1) 3 hb (by omega) (by omega) (by omega)
  obtain ⟨c1, c2, c3⟩ := law89 bs (p + 1) 9 hb (by omega) (by omega) (by omega)
  obtain ⟨d1, d2, d3⟩ := law89 bs (p + 1) 5 hb (by omega) (by omega) (by omega)
  rw [show p + 1 + 1 = p + 2 by omega] at b1 c1 d1
  have b4 := b3 (by omega)
  have c4 := c3 (by omega)
  have d4 := d3 (by omega)
  obtain ⟨w', p', e1, e2, e3, e4⟩ := law144 bs (p + 1) r.want hb (by omega) (by omega) hr.want
  obtain ⟨hr1, hr2, hr3, hr4, hr5⟩ := hr
  simp only [rdBox, Want.c] at a1 b1 c1 d1 e1 ⊢
  by_cases k0 : pickV bs p 6 = 0
  · refine ⟨{ r with want := w' }, p', F_run fn88 rfl ?_, by omega, by omega, ⟨e4, hr2, hr3, hr4, hr5⟩⟩
    simp [c88, a1, k0, e1]
  by_cases k1 : pickV bs p 6 = 1
  · have hu : IntKind.i64.wrap (pickV bs (p + 1) 9 - 1) = pickV bs (p + 1) 9 - 1 := i64w (by omega) (by omega)
    refine ⟨{ r with state := pickV bs (p + 1) 9 - 1 }, p + 2, F_run fn88 rfl ?_, by omega, by omega, ⟨hr1, ⟨by simp only; omega, by simp only; omega⟩, hr3, hr4, hr5⟩⟩
    simp [c88, a1, k0, k1, c1, hu]
  by_cases k2 : pickV bs p 6 = 2
  · refine ⟨{ r with left := selI [-1, 100, 101] (pickV bs (p + 1) 3) }, p + 2, F_run fn88 rfl ?_, by omega, by omega, ⟨hr1, hr2, selI_tame (by simp [tame]) _, hr4, hr5⟩⟩
    simp [c88, a1, k0, k1, k2, b1, b2, b4]
  by_cases k3 : pickV bs p 6 = 3
  · refine ⟨{ r with falls := selI [-1, 1000, 1001] (pickV bs (p + 1) 3) }, p + 2, F_run fn88 rfl ?_, by omega, by omega, ⟨hr1, hr2, hr3, selI_tame (by simp [tame]) _, hr5⟩⟩
    simp [c88, a1, k0, k1, k2, k3, b1, b2, b4]
  by_cases k4 : pickV bs p 6 = 4
  · refine ⟨{ r with til := selI [-1, 0, 1, 1000016, 1000017] (pickV bs (p + 1) 5) }, p + 2, F_run fn88 rfl ?_, by omega, by omega, ⟨hr1, hr2, hr3, hr4, selI_tame (by simp [tame]) _⟩⟩
    simp [c88, a1, k0, k1, k2, k3, k4, d1, d2, d4]
  · obtain ⟨g1, g2, g3, g4, g5, g6, g7⟩ := hr1
    refine ⟨{ r with want := { r.want with hold := ⟨#[]⟩ } }, p + 1, F_run fn88 rfl ?_, by omega, by omega, ⟨⟨g1, g2, Nat.zero_le _, g4, g5, g6, g7⟩, hr2, hr3, hr4, hr5⟩⟩
    simp [c88, a1, k0, k1, k2, k3, k4]
theorem Code.take {bs : List Int} (h : ∀ b ∈ bs, 0 ≤ b ∧ b ≤ 255) : Code (bs.take 2000) := ⟨by rw [List.length_take]; omega, fun b hb => h b (List.mem_of_mem_take hb)⟩

def Want.zero : Want := ⟨⟨#[]⟩, 0, ⟨#[]⟩, 0, 0, 0, 0⟩
theorem Want.zero_tame : Want.zero.tame := ⟨Nat.zero_le _, ⟨by decide, by decide⟩, Nat.zero_le _, ⟨by decide, by decide⟩, ⟨by decide, by decide⟩, ⟨by decide, by decide⟩, ⟨by decide, by decide⟩⟩

end Go.Proofs.YtaikddhcplfpmaaGreatDoor

namespace Go.Proofs.YtaikddhcplfpmaaGreatDoor
open Go

def Ends {ρ : Type} (o : Option ρ) (Q : ρ → Prop) : Prop := ∃ r, o = some r ∧ Q r
@[simp] theorem Ends_some {ρ : Type} (r : ρ) (Q : ρ → Prop) : Ends (some r) Q ↔ Q r := by
  unfold Ends
  constructor
  · rintro ⟨s, h, k⟩; cases h; exact k
  · exact fun k => ⟨r, rfl, k⟩
theorem Ends.mono {ρ : Type} {o : Option ρ} {Q Q' : ρ → Prop} (h : Ends o Q) (k : ∀ r, Q r → Q' r) : Ends o Q' := by
  obtain ⟨r, h1, h2⟩ := h
  exact ⟨r, h1, k r h2⟩

theorem F_ends {k : Nat} {c : CFn} {args : List AV} {objs : List AO} {Q : AV × List (Option AO) → Prop} (hc : P.fn k = some c) (hl : Nat.ble args.length c.nt = true)
    (h : Ends (fin c.res objs.length (X F [.code c.body] (.normal, ⟨startSlots args 0, startHeap objs 0, 0, objs.length, objs.length⟩))) Q) : Ends (F k args objs) Q := by
  obtain ⟨r, h1, h2⟩ := h
  exact ⟨r, F_run hc hl h1, h2⟩

open Classical in
theorem loop_end {cl : Callee} {ρ σ : Type} {K : Option (AExit × St) → Option ρ} {keep : List Nat} {b : CCode} {fs : List Fr} {Q : ρ → Prop} (H : σ → St) (Inv : σ → Prop) (μ : σ → Nat)
    (step : ∀ x Y, Inv x → (∀ y s', Inv y → μ y < μ x → s'.norm keep = H y → Ends (K (Y s')) Q) → Ends (K (X cl (.code b :: .back Y :: fs) (.normal, H x))) Q)
    (x : σ) {s : St} (hs : s.norm keep = H x) (hi : Inv x) (hm : μ x < big) : Ends (K (X cl (.code (.loop keep b) :: fs) (.normal, s))) Q := by
  have h := loop_by (cl := cl) (K := fun o => if Ends (K o) Q then some () else none) (keep := keep) (b := b) (fs := fs) H Inv μ (fun _ => ()) (fun x Y hx hY => by
    have := step x Y hx (fun y s' h1 h2 h3 => by
      have h4 := hY y s' h1 h2 h3
      split at h4
      · assumption
      · cases h4)
    exact if_pos this) x hs hi hm
  split at h
  · assumption
  · cases h
end Go.Proofs.YtaikddhcplfpmaaGreatDoor

namespace Go.Proofs.YtaikddhcplfpmaaGreatDoor
open Go
set_option linter.unusedSimpArgs false
set_option maxRecDepth 100000

def digit (d : Nat) : T := ⟨#[48 + UInt8.ofNat d]⟩
def dec (n : Nat) : T := if _h : n < 10 then digit n else dec (n / 10) ++ digit (n % 10)
termination_by n
decreasing_by omega

theorem u8w {d : Nat} (h : d < 10) : IntKind.u8.wrap (IntKind.i64.wrap (48 + (d : Int))) = 48 + (d : Int) := by
  rw [i64w (by omega) (by omega)]
  simp [IntKind.wrap, IntKind.signed, IntKind.bits]
  omega

theorem dec_size : ∀ (j n : Nat), n < 10 ^ (j + 1) → (dec n).size ≤ j + 1
  | 0, n, h => by
    rw [dec, dif_pos (by omega)]
    exact Nat.le_refl _
  | j + 1, n, h => by
    rw [dec]
    split
    · show 1 ≤ _; omega
    · rw [app_size]
      have := dec_size j (n / 10) (Nat.div_lt_of_lt_mul (by rw [Nat.pow_succ] at h; omega))
      have e : (digit (n % 10)).size = 1 := rfl
      omega

theorem law140 (n : Nat) (hn : n < 1000000000000000000) : F 140 [.int .i64 n] [] = some (.str (dec n), []) := by
  induction n using Nat.strongRecOn with
  | ind n ih =>
    refine F_run fn140 rfl ?_
    rw [dec]
    by_cases h : n < 10
    · have hI : (n : Int) < 10 := by omega
      have hu := u8w h
      have ht : (48 + (n : Int)).toNat = 48 + n := by omega
      simp [c140, h, hI, toBytes, hu, digit, ht]
    · have hI : ¬ (n : Int) < 10 := by omega
      have w := ih (n / 10) (by omega) (by omega)
      have hs := dec_size 18 (n / 10) (by omega)
      have hd := Nat.mod_lt n (show 0 < 10 by omega)
      obtain ⟨q, hq⟩ : ∃ q, q = n / 10 := ⟨_, rfl⟩
      obtain ⟨d, hdd⟩ : ∃ d, d = n % 10 := ⟨_, rfl⟩
      have hm : Int.tmod (n : Int) 10 = (d : Int) := by rw [Int.tmod_eq_emod_of_nonneg (by omega)]; omega
      have hm2 : (n : Int) % 10 = (d : Int) := by omega
      have hq2 : (n : Int) / 10 = (q : Int) := by omega
      have hq3 : IntKind.i64.wrap (q : Int) = (q : Int) := i64w (by omega) (by omega)
      rw [← hq] at w hs ⊢
      rw [← hdd] at hd ⊢
      have hu := u8w hd
      have ht : (48 + (d : Int)).toNat = 48 + d := by omega
      have hs2 : (dec q).size + (⟨#[48 + UInt8.ofNat d]⟩ : T).size ≤ 9223372036854775807 := by
        have : (⟨#[48 + UInt8.ofNat d]⟩ : T).size = 1 := rfl
        omega
      simp [c140, h, hI, toBytes, hm, hm2, hq2, hq3, hu, digit, ht, w, hs2]

/-- The name of the i-th copy. -/
theorem cName_size {i : Nat} (h : i < 1000) : ((⟨#[99]⟩ : T) ++ dec i).size ≤ 1000 := by
  rw [app_size]
  have := dec_size 3 i (by omega)
  have e : (⟨#[99]⟩ : T).size = 1 := rfl
  omega

/-! ### Lists of wants and of runs -/
def head145 (bs : List Int) (p : Int) (ws : List Want) (i : Nat) : St := hd [(0, .ptr 0 0 0), (3, .ref 1), (4, .int .i64 i)] [rdBox bs p, .arr 7 (ws.map Want.c)] 1

def Drew (bs : List Int) (p n : Int) (v : AV → Prop) (r : AV × List (Option AO)) : Prop := ∃ x p', r = (x, [some (rdBox bs p')]) ∧ p ≤ p' ∧ p' ≤ p + n ∧ v x

theorem law145 (bs : List Int) (p : Int) (hb : Code bs) (h0 : 0 ≤ p) (hp : p ≤ 1000000000) :
    Ends (F 145 [.ptr 0 0 0] [rdBox bs p]) (Drew bs p 28 fun x => ∃ ws : List Want, x = .sl .own 7 (ws.map Want.c) ∧ ws.length ≤ 4 ∧ ∀ w ∈ ws, Want.tame w) := by
  refine F_ends fn145 rfl ?_
  simp [c145]
  refine loop_end (σ := Nat × Int × List Want) (fun z => head145 bs z.2.1 z.2.2 z.1) (fun z => z.1 ≤ 4 ∧ p ≤ z.2.1 ∧ z.2.1 ≤ p + 7 * z.1 ∧ z.2.2.length ≤ z.1 ∧ ∀ w ∈ z.2.2, Want.tame w) (fun z => 4 - z.1) (fun z Y hinv hY => ?_) (0, p, []) ?_ ⟨by omega, by simp, by simp, by simp, by simp⟩ (by unfold big; simp)
  · obtain ⟨i, q, ws⟩ := z
    obtain ⟨h1, h2, h3, h4, h5⟩ := hinv
    simp only at h1 h2 h3 h4 h5 hY ⊢
    by_cases hi : i < 4
    · have hiI : (i : Int) < 4 := by omega
      have hw : IntKind.i64.wrap ((i : Int) + 1) = (i : Int) + 1 := i64w (by omega) (by omega)
      obtain ⟨a1, a2, a3⟩ := law89 bs q 2 hb (by omega) (by omega) (by omega)
      have d1 := law140 i (by omega)
      have d2 := cName_size (i := i) (by omega)
      have d3 : (⟨#[99]⟩ : T).size + (dec i).size ≤ 9223372036854775807 := by rw [app_size] at d2; omega
      have b1 := law87 bs (q + 1) (⟨#[99]⟩ ++ dec i) hb (by omega) (by omega)
      rw [show q + 1 + 6 = q + 7 by omega] at b1
      have b2 := drawWant_tame (p := q + 1) (copy := ⟨#[99]⟩ ++ dec i) hb (by omega) (by omega) d2
      generalize drawWant bs (q + 1) (⟨#[99]⟩ ++ dec i) = w at b1 b2
      have c1 := law7 (ws ++ [w]) (by unfold big; simp; omega)
      have e1 : ws.length * 72 ≤ 140737488355328 := by omega
      have e2 : ws.length ≤ 140737488355328 := by omega
      have e3 : (ws.length + 1) * 72 ≤ 140737488355328 := by omega
      have e4 : ws.length + 1 ≤ 140737488355328 := by omega
      simp only [rdBox, Want.c] at a1 b1
      simp at c1
      by_cases k0 : pickV bs q 2 = 0
      · cases k1 : wantsOk (ws ++ [w])
        · rw [k1] at c1
          simp [head145, rdBox, c145b0, hiI, a1, k0, d1, d3, b1, takeRows, rowsPlain, e1, e2, e3, e4, c1]
          refine hY (i + 1, q + 7, ws) _ ⟨by omega, by simp only; omega, by simp only; omega, by simp only; omega, h5⟩ (by simp only; omega) ?_
          simp [head145, rdBox, hw]
        · rw [k1] at c1
          simp [head145, rdBox, c145b0, hiI, a1, k0, d1, d3, b1, takeRows, rowsPlain, e1, e2, e3, e4, c1]
          refine hY (i + 1, q + 7, ws ++ [w]) _ ⟨by omega, by simp only; omega, by simp only; omega, by simp; omega, ?_⟩ (by simp only; omega) ?_
          · intro x hx
            rcases List.mem_append.1 hx with hx | hx
            · exact h5 x hx
            · rw [List.mem_singleton.1 hx]; exact b2
          · simp [head145, rdBox, hw]
      · simp [head145, rdBox, c145b0, hiI, a1, k0]
        refine hY (i + 1, q + 1, ws) _ ⟨by omega, by simp only; omega, by simp only; omega, by simp only; omega, h5⟩ (by simp only; omega) ?_
        simp [head145, rdBox, hw]
    · have hiI : ¬ (i : Int) < 4 := by omega
      simp [head145, rdBox, c145b0, hiI]
      exact ⟨_, q, rfl, by omega, by omega, ws, rfl, by omega, h5⟩
  · simp [head145, rdBox]
def head162 (bs : List Int) (p clock : Int) (ok : Bool) (rs : List Run) (i : Nat) : St := hd [(0, .ptr 0 0 0), (1, .int .i64 clock), (2, .bool ok), (7, .ref 1), (8, .int .i64 i)] [rdBox bs p, .arr 11 (rs.map Run.c)] 1

theorem law162 (bs : List Int) (p clock : Int) (ok : Bool) (hb : Code bs) (h0 : 0 ≤ p) (hp : p ≤ 1000000000) (hk : 0 ≤ clock ∧ clock ≤ 10000000) :
    Ends (F 162 [.ptr 0 0 0, .int .i64 clock, .bool ok] [rdBox bs p]) (Drew bs p 44 fun x => ∃ rs : List Run, x = .sl .own 11 (rs.map Run.c) ∧ rs.length ≤ 4 ∧ ∀ r ∈ rs, Run.tame r) := by
  refine F_ends fn162 rfl ?_
  simp [c162]
  refine loop_end (σ := Nat × Int × List Run) (fun z => head162 bs z.2.1 clock ok z.2.2 z.1) (fun z => z.1 ≤ 4 ∧ p ≤ z.2.1 ∧ z.2.1 ≤ p + 11 * z.1 ∧ z.2.2.length ≤ z.1 ∧ ∀ w ∈ z.2.2, Run.tame w) (fun z => 4 - z.1) (fun z Y hinv hY => ?_) (0, p, []) ?_ ⟨by omega, by simp, by simp, by simp, by simp⟩ (by unfold big; simp)
  · obtain ⟨i, q, rs⟩ := z
    obtain ⟨h1, h2, h3, h4, h5⟩ := hinv
    simp only at h1 h2 h3 h4 h5 hY ⊢
    by_cases hi : i < 4
    · have hiI : (i : Int) < 4 := by omega
      have hw : IntKind.i64.wrap ((i : Int) + 1) = (i : Int) + 1 := i64w (by omega) (by omega)
      obtain ⟨a1, a2, a3⟩ := law89 bs q 2 hb (by omega) (by omega) (by omega)
      have d1 := law140 i (by omega)
      have d2 := cName_size (i := i) (by omega)
      have d3 : (⟨#[99]⟩ : T).size + (dec i).size ≤ 9223372036854775807 := by rw [app_size] at d2; omega
      obtain ⟨x, q', b1, b2, b3, b4⟩ := law90 bs (q + 1) (⟨#[99]⟩ ++ dec i) clock hb (by omega) (by omega) d2 hk
      have e1 : rs.length * 104 ≤ 140737488355328 := by omega
      have e2 : rs.length ≤ 140737488355328 := by omega
      have e3 : (rs.length + 1) * 104 ≤ 140737488355328 := by omega
      have e4 : rs.length + 1 ≤ 140737488355328 := by omega
      have hall : ∀ y, Run.tame y → ∀ z ∈ rs ++ [y], Run.tame z := by
        intro y hy z hz
        rcases List.mem_append.1 hz with hz | hz
        · exact h5 z hz
        · rw [List.mem_singleton.1 hz]; exact hy
      simp only [rdBox, Run.c] at a1 b1
      by_cases k0 : pickV bs q 2 = 0
      · by_cases k1 : ok = true ∧ runOk x clock = false
        · obtain ⟨k1, k2⟩ := k1
          subst k1
          simp [head162, rdBox, c162b0, hiI, a1, k0, d1, d3, b1, takeRows, rowsPlain, e1, e2, e3, e4, k2]
          refine hY (i + 1, q', rs ++ [{ x with state := 2, left := 0 }]) _ ⟨by omega, by simp only; omega, by simp only; omega, by simp; omega, hall _ ⟨b4.want, ⟨by simp, by simp⟩, ⟨by simp, by simp⟩, b4.falls, b4.til⟩⟩ (by simp only; omega) ?_
          simp [head162, rdBox, hw]
        · cases ok
          · simp [head162, rdBox, c162b0, hiI, a1, k0, d1, d3, b1, takeRows, rowsPlain, e1, e2, e3, e4]
            refine hY (i + 1, q', rs ++ [x]) _ ⟨by omega, by simp only; omega, by simp only; omega, by simp; omega, hall _ b4⟩ (by simp only; omega) ?_
            simp [head162, rdBox, hw]
          · have k2 : runOk x clock = true := by
              cases h : runOk x clock
              · exact absurd ⟨rfl, h⟩ k1
              · rfl
            simp [head162, rdBox, c162b0, hiI, a1, k0, d1, d3, b1, takeRows, rowsPlain, e1, e2, e3, e4, k2]
            refine hY (i + 1, q', rs ++ [x]) _ ⟨by omega, by simp only; omega, by simp only; omega, by simp; omega, hall _ b4⟩ (by simp only; omega) ?_
            simp [head162, rdBox, hw]
      · simp [head162, rdBox, c162b0, hiI, a1, k0]
        refine hY (i + 1, q + 1, rs) _ ⟨by omega, by simp only; omega, by simp only; omega, by simp only; omega, h5⟩ (by simp only; omega) ?_
        simp [head162, rdBox, hw]
    · have hiI : ¬ (i : Int) < 4 := by omega
      simp [head162, rdBox, c162b0, hiI]
      exact ⟨_, q, rfl, by omega, by omega, rs, rfl, by omega, h5⟩
  · simp [head162, rdBox]
end Go.Proofs.YtaikddhcplfpmaaGreatDoor

namespace Go.Proofs.YtaikddhcplfpmaaGreatDoor
open Go
set_option linter.unusedSimpArgs false
set_option maxRecDepth 100000

def findW (l : List Want) (n : T) : Option Want := l.find? fun w => sEq w.copy n

def head161 (ws : List Want) (n : T) (i : Nat) : St := hd [(0, .sl .bor 7 (ws.map Want.c)), (1, .str n), (4, .ptr 0 0 0), (6, .int .i64 i)] [.box Want.zero.c] 0

theorem findW_tame {l : List Want} (h : ∀ w ∈ l, w.tame) (n : T) : ((findW l n).getD .zero).tame := by
  cases e : findW l n with
  | none => exact Want.zero_tame
  | some w => exact h w (List.mem_of_find?_eq_some e)

structure Ask.tame (a : Ask) : Prop where
  hold : a.hold.size ≤ 1000
  copy : a.copy.size ≤ 1000
  first : YtaikddhcplfpmaaGreatDoor.tame a.first
  at_ : YtaikddhcplfpmaaGreatDoor.tame a.at_
structure Mate.tameN (k : Nat) (m : Mate) : Prop where
  name : m.name.size ≤ 1000
  clock : YtaikddhcplfpmaaGreatDoor.tame m.clock
  seen : YtaikddhcplfpmaaGreatDoor.tame m.seen
  nwants : m.wants.length ≤ k
  wants : ∀ w ∈ m.wants, w.tame
  nruns : m.runs.length ≤ k
  runs : ∀ r ∈ m.runs, r.tame
  nasks : m.asks.length ≤ k
  asks : ∀ a ∈ m.asks, a.tame
  ngives : m.gives.length ≤ k
  gives : ∀ a ∈ m.gives, a.tame
abbrev Mate.tame (m : Mate) : Prop := m.tameN 20
theorem Mate.tameN.up {k k' : Nat} {m : Mate} (h : m.tameN k) (hk : k ≤ k') : m.tameN k' :=
  ⟨h.name, h.clock, h.seen, Nat.le_trans h.nwants hk, h.wants, Nat.le_trans h.nruns hk, h.runs, Nat.le_trans h.nasks hk, h.asks, Nat.le_trans h.ngives hk, h.gives⟩
theorem Mate.tameN.small {k : Nat} {m : Mate} (h : m.tameN k) (hk : k ≤ 1000) : m.small := by
  obtain ⟨_, _, _, h1, _, h2, _, h3, _, h4, _⟩ := h
  exact ⟨by omega, by omega, by omega, by omega⟩

theorem selN3 (a b c : T) {k : Nat} (h : k < [[AV.str a], [.str b], [.str c]].length) : [[AV.str a], [.str b], [.str c]][k]'h = [.str ([a, b, c].getD k ⟨#[]⟩)] := by
  rcases k with _ | _ | _ | k <;> first | rfl | (simp at h; omega)

def wn (wk : Bool) : Nat := if wk then 1 else 0
def an (l : List Ask) : Nat := if l = [] then 0 else 1
/-- A mate's cells, its arrays being numbered from n on; its wants may be nil. -/
def cellsB (n : Nat) (wk : Bool) (m : Mate) : List AV :=
  [.str m.name, .bool m.up, .int .i64 m.clock, .bool m.known, .int .i64 m.seen, if wk then .ref n else .sl .own 7 [], .ref (n + wn wk), ownVi (n + wn wk + 1) 4 (m.asks.map Ask.c), ownVi (n + wn wk + 1 + an m.asks) 4 (m.gives.map Ask.c)]
def arrsB (wk : Bool) (m : Mate) : List AO := (if wk then [.arr 7 (m.wants.map Want.c)] else []) ++ .arr 11 (m.runs.map Run.c) :: (ownH 4 (m.asks.map Ask.c) ++ ownH 4 (m.gives.map Ask.c))

def head156b (bs : List Int) (p : Int) (wk : Bool) (m : Mate) (i : Nat) : St :=
  hd [(0, .ptr 0 0 0), (2, .ptr 1 0 0), (3, .ptr 2 0 0), (7, .int .i64 i)] (rdBox bs p :: .box zeroCells :: .box (cellsB 3 wk m) :: arrsB wk m) 1
def head156c (bs : List Int) (p : Int) (wk : Bool) (m : Mate) (i : Nat) (a : Ask) (j : Nat) : St :=
  hd [(0, .ptr 0 0 0), (2, .ptr 1 0 0), (3, .ptr 2 0 0), (7, .int .i64 i), (8, .ptr 3 0 0), (9, .int .i64 j)] (rdBox bs p :: .box zeroCells :: .box (cellsB 4 wk m) :: .box a.c :: arrsB wk m) 1

theorem hp_get : ∀ (os : List AO) (n j : Nat), YtaikddhcplfpmaaGreatDoor.hp os n (n + j) = os[j]?
  | [], n, j => by simp [YtaikddhcplfpmaaGreatDoor.hp]
  | o :: os, n, 0 => by simp [YtaikddhcplfpmaaGreatDoor.hp, upd]
  | o :: os, n, j + 1 => by
    have h := hp_get os (n + 1) j
    rw [show n + 1 + j = n + (j + 1) by omega] at h
    have e : ¬ (n + (j + 1) = n) := by omega
    simp [YtaikddhcplfpmaaGreatDoor.hp, upd, h, e]

theorem mem_snoc {α : Type} {l : List α} {P : α → Prop} (h : ∀ x ∈ l, P x) {y : α} (hy : P y) : ∀ x ∈ l ++ [y], P x := by
  intro x hx
  rcases List.mem_append.1 hx with hx | hx
  · exact h x hx
  · rw [List.mem_singleton.1 hx]; exact hy

/-- A state in the midst of a mate's draw. -/
structure Mid (bs : List Int) (q : Int) (wk : Bool) (m : Mate) (i : Nat) (a : Ask) (s : St) : Prop where
  s0 : s.slots 0 = .ptr 0 0 0
  s2 : s.slots 2 = .ptr 1 0 0
  s3 : s.slots 3 = .ptr 2 0 0
  s7 : s.slots 7 = .int .i64 i
  s8 : s.slots 8 = .ptr 3 0 0
  h0 : s.heap 0 = some (rdBox bs q)
  h1 : s.heap 1 = some (.box zeroCells)
  h2 : s.heap 2 = some (.box (cellsB 4 wk m))
  h3 : s.heap 3 = some (.box a.c)
  hx : ∀ k, k < 5 → s.heap (4 + k) = (arrsB wk m)[k]?
  nx : 100 ≤ s.next
  base : s.base = 1

def codeEnd : CCode := (.seq (.region [⟨some 160, .mov (.tmp 0), none⟩, ⟨some 161, .call 89 [true, false] [.tmp 160, .const (.int .i64 4)], none⟩] [0, 2, 3, 7, 8, 161])
  (.block 6 (.seq (.seq (.region [⟨some 163, .bin .eql (.tmp 161) (.const (.int .i64 0)), none⟩, ⟨some 162, .mov (.tmp 163), none⟩] [0, 2, 3, 7, 8, 161, 162]) (.cond (.tmp 162) .skip (.region [⟨some 164, .bin .eql (.tmp 161) (.const (.int .i64 1)), none⟩, ⟨some 162, .mov (.tmp 164), none⟩] [0, 2, 3, 7, 8, 161, 162])))
    (.cond (.tmp 162) (.region [⟨some 165, .faddr (.tmp 3) 7, none⟩, ⟨some 166, .load (.tmp 165) 1 false .plain, none⟩, ⟨some 167, .load (.tmp 8) 4 true .plain, none⟩, ⟨some 168, .bslice 4 [.str ⟨#[]⟩, .str ⟨#[]⟩, .int .i64 0, .int .i64 0] 1 [(0, .tmp 167)], none⟩, ⟨some 169, .append 4 48 true (.tmp 166) (.tmp 168), none⟩, ⟨some 170, .faddr (.tmp 3) 7, none⟩, ⟨none, .store (.tmp 170) (.tmp 169) 1, none⟩] [0, 2, 3, 7])
      (.seq (.region [⟨some 172, .bin .eql (.tmp 161) (.const (.int .i64 2)), none⟩, ⟨some 171, .mov (.tmp 172), none⟩] [0, 2, 3, 7, 8, 171])
        (.cond (.tmp 171) (.region [⟨some 173, .faddr (.tmp 3) 8, none⟩, ⟨some 174, .load (.tmp 173) 1 false .plain, none⟩, ⟨some 175, .load (.tmp 8) 4 true .plain, none⟩, ⟨some 176, .bslice 4 [.str ⟨#[]⟩, .str ⟨#[]⟩, .int .i64 0, .int .i64 0] 1 [(0, .tmp 175)], none⟩, ⟨some 177, .append 4 48 true (.tmp 174) (.tmp 176), none⟩, ⟨some 178, .faddr (.tmp 3) 8, none⟩, ⟨none, .store (.tmp 178) (.tmp 177) 1, none⟩] [0, 2, 3, 7]) .skip))))))

theorem draw_end {Q : AV × List (Option AO) → Prop} {Y : St → Option (AExit × St)} {fs2 : List Fr} (bs : List Int) (q : Int) (wk : Bool) (m : Mate) (i : Nat) (a : Ask) (hb : Code bs) (h0 : 0 ≤ q) (hq : q ≤ 10000000000) (hi : i < 3) (hA : m.asks.length ≤ 3) (hG : m.gives.length ≤ 3)
    (hY : ∀ m' s', (m' = m ∨ m' = { m with asks := m.asks ++ [a] } ∨ m' = { m with gives := m.gives ++ [a] }) → s'.norm [0, 2, 3, 7] = head156b bs (q + 1) wk m' (i + 1) → Ends (fin [CRes.cell 2 9 true] 1 (Y s')) Q) (s : St) (hs : Mid bs q wk m i a s) :
    Ends (fin [CRes.cell 2 9 true] 1 (X F (.code codeEnd :: .blk 3 :: .code (.region [⟨some 100, .mov (.tmp 7), none⟩, ⟨some 101, .bin .add (.tmp 100) (.const (.int .i64 1)), none⟩, ⟨some 7, .mov (.tmp 101), none⟩] [0, 2, 3, 7]) :: .back Y :: fs2) (.normal, s))) Q := by
  obtain ⟨s0, s2, s3, s7, s8, g0, g1, g2, g3, gx, nx0, base⟩ := hs
  obtain ⟨n, nx⟩ : ∃ n, s.next = n + 100 := ⟨s.next - 100, by omega⟩
  obtain ⟨a1, a2, a3⟩ := law89 bs q 4 hb h0 (by omega) (by omega)
  have hw : IntKind.i64.wrap ((i : Int) + 1) = (i : Int) + 1 := i64w (by omega) (by omega)
  simp only [rdBox] at a1 g0
  have gx4 := gx 0 (by omega)
  have gx5 := gx 1 (by omega)
  have gx6 := gx 2 (by omega)
  have gx7 := gx 3 (by omega)
  have e3 : (m.asks.length + 1) * 48 ≤ 140737488355328 := by omega
  have e4 : m.asks.length + 1 ≤ 140737488355328 := by omega
  have e5 : (m.gives.length + 1) * 48 ≤ 140737488355328 := by omega
  have e6 : m.gives.length + 1 ≤ 140737488355328 := by omega
  by_cases k0 : pickV bs q 4 = 0 ∨ pickV bs q 4 = 1
  · cases wk <;> rcases hAA : m.asks with _ | ⟨x, as⟩ <;> rcases hGG : m.gives with _ | ⟨y, gs⟩ <;> rw [hAA] at e3 e4 <;> rcases k0 with k0 | k0 <;>
    · simp [arrsB, hAA, hGG] at gx4 gx5 gx6 gx7
      simp at e3 e4
      simp [codeEnd, s0, s2, s3, s7, s8, g0, g1, g2, g3, gx4, gx5, gx6, gx7, nx, base, a1, k0, cellsB, wn, an, hAA, hGG, takeRows, rowsPlain, e3, e4]
      refine hY { m with asks := m.asks ++ [a] } _ (.inr (.inl rfl)) ?_
      simp [head156b, rdBox, cellsB, zeroCells, arrsB, wn, an, hAA, hGG, hw, g1, g2, gx4, gx5, gx6, gx7, base]
  by_cases k2 : pickV bs q 4 = 2
  · cases wk <;> rcases hAA : m.asks with _ | ⟨x, as⟩ <;> rcases hGG : m.gives with _ | ⟨y, gs⟩ <;> rw [hGG] at e5 e6 <;>
    · simp [arrsB, hAA, hGG] at gx4 gx5 gx6 gx7
      simp at e5 e6
      simp [codeEnd, s0, s2, s3, s7, s8, g0, g1, g2, g3, gx4, gx5, gx6, gx7, nx, base, a1, k2, cellsB, wn, an, hAA, hGG, takeRows, rowsPlain, e5, e6]
      refine hY { m with gives := m.gives ++ [a] } _ (.inr (.inr rfl)) ?_
      simp [head156b, rdBox, cellsB, zeroCells, arrsB, wn, an, hAA, hGG, hw, g1, g2, gx4, gx5, gx6, gx7, base]
  · have k0a : ¬ pickV bs q 4 = 0 := fun h => k0 (.inl h)
    have k0b : ¬ pickV bs q 4 = 1 := fun h => k0 (.inr h)
    cases wk <;> rcases hAA : m.asks with _ | ⟨x, as⟩ <;> rcases hGG : m.gives with _ | ⟨y, gs⟩ <;>
    · simp [arrsB, hAA, hGG] at gx4 gx5 gx6 gx7
      simp [codeEnd, s0, s2, s3, s7, s8, g0, g1, g2, g3, nx, base, a1, k0a, k0b, k2]
      refine hY m _ (.inl rfl) ?_
      simp [head156b, rdBox, cellsB, zeroCells, arrsB, wn, an, hAA, hGG, hw, g1, g2, gx4, gx5, gx6, gx7, base]

def codeD : CCode := .seq (.loud [⟨some 150, .faddr (.tmp 8) 3, none⟩, ⟨some 151, .load (.tmp 150) 1 false .plain, none⟩, ⟨some 152, .mov (.tmp 0), none⟩, ⟨some 153, .call 89 [true, false] [.tmp 152, .const (.int .i64 6)], none⟩, ⟨some 154, .bin .sub (.tmp 151) (.tmp 153), none⟩, ⟨some 155, .faddr (.tmp 8) 2, none⟩, ⟨none, .store (.tmp 155) (.tmp 154) 1, none⟩] [0, 1, 0, 4, 15, 31, 63] [0, 2, 3, 7, 8])
  (.seq (.seq (.region [⟨some 156, .faddr (.tmp 8) 2, none⟩, ⟨some 157, .load (.tmp 156) 1 false .plain, none⟩, ⟨some 158, .bin .lss (.tmp 157) (.const (.int .i64 0)), none⟩] [0, 2, 3, 7, 8, 158]) (.cond (.tmp 158) (.region [⟨some 159, .faddr (.tmp 8) 2, none⟩, ⟨none, .store (.tmp 159) (.const (.int .i64 0)) 1, none⟩] [0, 2, 3, 7, 8]) .skip)) codeEnd)
def codeC : CCode := .seq (.seq (.region [⟨some 146, .faddr (.tmp 8) 3, none⟩, ⟨some 147, .load (.tmp 146) 1 false .plain, none⟩, ⟨some 148, .bin .lss (.tmp 147) (.const (.int .i64 0)), none⟩] [0, 2, 3, 7, 8, 148]) (.cond (.tmp 148) (.region [⟨some 149, .faddr (.tmp 8) 3, none⟩, ⟨none, .store (.tmp 149) (.const (.int .i64 0)) 1, none⟩] [0, 2, 3, 7, 8]) .skip)) codeD

/-- What an ask becomes before it is put into a list. -/
def askFix (a : Ask) (x : Int) : Ask :=
  let t := if a.at_ < 0 then 0 else a.at_
  { a with at_ := t, first := if t - x < 0 then 0 else t - x }

theorem draw_rest {Q : AV × List (Option AO) → Prop} {Y : St → Option (AExit × St)} {fs2 : List Fr} (bs : List Int) (q : Int) (wk : Bool) (m : Mate) (i : Nat) (a : Ask) (hb : Code bs) (h0 : 0 ≤ q) (hq : q ≤ 2000000000) (hi : i < 3) (hA : m.asks.length ≤ 3) (hG : m.gives.length ≤ 3) (hat : tame a.at_)
    (hY : ∀ m' s', (m' = m ∨ m' = { m with asks := m.asks ++ [askFix a (pickV bs q 6)] } ∨ m' = { m with gives := m.gives ++ [askFix a (pickV bs q 6)] }) → s'.norm [0, 2, 3, 7] = head156b bs (q + 2) wk m' (i + 1) → Ends (fin [CRes.cell 2 9 true] 1 (Y s')) Q) (s : St) (hs : Mid bs q wk m i a s) :
    Ends (fin [CRes.cell 2 9 true] 1 (X F (.code codeC :: .blk 3 :: .code (.region [⟨some 100, .mov (.tmp 7), none⟩, ⟨some 101, .bin .add (.tmp 100) (.const (.int .i64 1)), none⟩, ⟨some 7, .mov (.tmp 101), none⟩] [0, 2, 3, 7]) :: .back Y :: fs2) (.normal, s))) Q := by
  obtain ⟨s0, s2, s3, s7, s8, g0, g1, g2, g3, gx, nx0, base⟩ := hs
  obtain ⟨n, nx⟩ : ∃ n, s.next = n + 100 := ⟨s.next - 100, by omega⟩
  obtain ⟨a1, a2, a3⟩ := law89 bs q 6 hb h0 (by omega) (by omega)
  have a4 := a3 (by omega)
  obtain ⟨t1, t2⟩ := hat
  simp only [rdBox] at a1 g0
  have fin' : ∀ (a' : Ask), a' = askFix a (pickV bs q 6) → ∀ s', Mid bs (q + 1) wk m i a' s' → Ends (fin [CRes.cell 2 9 true] 1 (X F (.code codeEnd :: .blk 3 :: .code (.region [⟨some 100, .mov (.tmp 7), none⟩, ⟨some 101, .bin .add (.tmp 100) (.const (.int .i64 1)), none⟩, ⟨some 7, .mov (.tmp 101), none⟩] [0, 2, 3, 7]) :: .back Y :: fs2) (.normal, s'))) Q := by
    intro a' ha s' hs'
    refine draw_end bs (q + 1) wk m i a' hb (by omega) (by omega) hi hA hG (fun m' s2 hm' hn => ?_) s' hs'
    rw [show q + 1 + 1 = q + 2 by omega] at hn
    exact hY m' s2 (by rw [← ha]; exact hm') hn
  by_cases c1 : a.at_ < 0
  · have u1 : IntKind.i64.wrap (-(pickV bs q 6)) = -(pickV bs q 6) := i64w (by omega) (by omega)
    by_cases c2 : 0 < pickV bs q 6
    · have c3 : -(pickV bs q 6) < 0 := by omega
      simp [codeC, codeD, s0, s2, s3, s7, s8, g0, g1, g2, g3, nx, base, a1, c1, c2, c3, u1]
      refine fin' ⟨a.hold, a.copy, 0, 0⟩ (by simp [askFix, c1, c2, c3]) _ ⟨by simp, by simp, by simp, by simp, by simp, by simp [rdBox], by simp [g1], by simp [g2], by simp, fun k hk => by have := gx k hk; have e1 : ¬ (4 + k = 3) := (by omega); have e2 : ¬ (4 + k = 0) := (by omega); simpa [e1, e2] using this, by simp, by simp⟩
    · have c3 : ¬ (-(pickV bs q 6) < 0) := by omega
      have c4 : pickV bs q 6 = 0 := by omega
      simp [codeC, codeD, s0, s2, s3, s7, s8, g0, g1, g2, g3, nx, base, a1, c1, c2, c3, u1]
      refine fin' ⟨a.hold, a.copy, -(pickV bs q 6), 0⟩ (by simp [askFix, c1, c2, c3, c4]) _ ⟨by simp, by simp, by simp, by simp, by simp, by simp [rdBox], by simp [g1], by simp [g2], by simp, fun k hk => by have := gx k hk; have e1 : ¬ (4 + k = 3) := (by omega); have e2 : ¬ (4 + k = 0) := (by omega); simpa [e1, e2] using this, by simp, by simp⟩
  · have u1 : IntKind.i64.wrap (a.at_ - pickV bs q 6) = a.at_ - pickV bs q 6 := i64w (by omega) (by omega)
    by_cases c2 : a.at_ - pickV bs q 6 < 0
    · simp [codeC, codeD, s0, s2, s3, s7, s8, g0, g1, g2, g3, nx, base, a1, c1, c2, u1]
      refine fin' ⟨a.hold, a.copy, 0, a.at_⟩ (by simp [askFix, c1, c2]) _ ⟨by simp, by simp, by simp, by simp, by simp, by simp [rdBox], by simp [g1], by simp [g2], by simp, fun k hk => by have := gx k hk; have e1 : ¬ (4 + k = 3) := (by omega); have e2 : ¬ (4 + k = 0) := (by omega); simpa [e1, e2] using this, by simp, by simp⟩
    · simp [codeC, codeD, s0, s2, s3, s7, s8, g0, g1, g2, g3, nx, base, a1, c1, c2, u1]
      refine fin' ⟨a.hold, a.copy, a.at_ - pickV bs q 6, a.at_⟩ (by simp [askFix, c1, c2]) _ ⟨by simp, by simp, by simp, by simp, by simp, by simp [rdBox], by simp [g1], by simp [g2], by simp, fun k hk => by have := gx k hk; have e1 : ¬ (4 + k = 3) := (by omega); have e2 : ¬ (4 + k = 0) := (by omega); simpa [e1, e2] using this, by simp, by simp⟩

end Go.Proofs.YtaikddhcplfpmaaGreatDoor

namespace Go.Proofs.YtaikddhcplfpmaaGreatDoor
open Go
set_option linter.unusedSimpArgs false
set_option maxRecDepth 100000

theorem fallRun_tame {b : Bool} {r r' : Run} (h : r.tame) (e : fallRun b r = some r') : r'.tame := by
  unfold fallRun at e
  split at e
  · split at e
    · split at e
      · cases e
      · obtain rfl := Option.some.inj e
        exact ⟨h.want, ⟨by simp, by simp⟩, ⟨by simp, by simp⟩, h.falls, h.til⟩
    · obtain rfl := Option.some.inj e
      exact h
  · cases e

theorem fall_tame {m : Mate} (b : Bool) (h : m.tame) : (mateFall m b).tame := by
  unfold mateFall
  split
  · refine ⟨h.name, h.clock, ⟨by simp [Mate.zero], by simp [Mate.zero]⟩, by simp [Mate.zero], by simp [Mate.zero], Nat.le_trans (List.length_filterMap_le _ _) h.nruns, ?_, by simp [Mate.zero], by simp [Mate.zero], by simp [Mate.zero], by simp [Mate.zero]⟩
    intro r hr
    obtain ⟨r0, h1, h2⟩ := List.mem_filterMap.1 hr
    exact fallRun_tame (h.runs r0 h1) h2
  · exact ⟨Nat.zero_le _, ⟨by simp [Mate.zero], by simp [Mate.zero]⟩, ⟨by simp [Mate.zero], by simp [Mate.zero]⟩, by simp [Mate.zero], by simp [Mate.zero], by simp [Mate.zero], by simp [Mate.zero], by simp [Mate.zero], by simp [Mate.zero], by simp [Mate.zero], by simp [Mate.zero]⟩
def head156a (bs : List Int) (p : Int) (m : Mate) (i : Nat) : St :=
  hd [(0, .ptr 0 0 0), (2, .ptr 1 0 0), (3, .ptr 2 0 0), (4, .int .i64 i)] (rdBox bs p :: .box zeroCells :: .box (cellsB 3 true { m with asks := [], gives := [] }) :: arrsB true { m with asks := [], gives := [] }) 1

end Go.Proofs.YtaikddhcplfpmaaGreatDoor

namespace Go.Proofs.YtaikddhcplfpmaaGreatDoor
open Go
set_option linter.unusedSimpArgs false
set_option maxRecDepth 100000

end Go.Proofs.YtaikddhcplfpmaaGreatDoor

namespace Go.Proofs.YtaikddhcplfpmaaGreatDoor
open Go
set_option linter.unusedSimpArgs false
set_option maxRecDepth 100000

/-- A mate's cells, its arrays being numbered from n on. -/
def cellsA (n : Nat) (m : Mate) : List AV := [.str m.name, .bool m.up, .int .i64 m.clock, .bool m.known, .int .i64 m.seen, .ref n, .ref (n + 1), .ref (n + 2), .ref (n + 3)]
def arrsA (m : Mate) : List AO := [.arr 7 (m.wants.map Want.c), .arr 11 (m.runs.map Run.c), .arr 4 (m.asks.map Ask.c), .arr 4 (m.gives.map Ask.c)]
def head116a (bs : List Int) (p d : Int) (m : Mate) (i : Nat) : St := hd [(2, .ptr 1 0 0), (3, .ptr 2 0 0), (4, .int .i64 d), (5, .int .i64 i)] (rdBox bs p :: .box zeroCells :: .box (cellsA 3 m) :: arrsA m) 1
def head116b (bs : List Int) (p : Int) (m : Mate) (i : Nat) : St := hd [(0, .ptr 0 0 0), (2, .ptr 1 0 0), (3, .ptr 2 0 0), (6, .int .i64 i)] (rdBox bs p :: .box zeroCells :: .box (cellsA 3 m) :: arrsA m) 1

end Go.Proofs.YtaikddhcplfpmaaGreatDoor

namespace Go.Proofs.YtaikddhcplfpmaaGreatDoor
open Go
set_option linter.unusedSimpArgs false

theorem law222 (s p : T) (h : s.size ≤ 9223372036854775807) : F 222 [.str s, .str p] [] = some (.bool (Lib.hasSuffix s.data.toList p.data.toList), []) :=
  lim_prim rfl (by rw [show P.prim = prim from rfl]; simp [prim, primGo, h])
theorem law220 (s sep : T) (h : s.size < 4294967281) (h2 : 1 ≤ sep.size) : F 220 [.str s, .str sep] [] = some (.sl .own 1 ((splitT s sep).map fun x => [.str x]), []) :=
  lim_prim rfl (by rw [show P.prim = prim from rfl]; simp [prim, primGo, h, h2])
theorem textsOf_map : ∀ xs : List T, textsOf (xs.map fun x => [.str x]) = some xs
  | [] => rfl
  | x :: xs => by simp [textsOf, textsOf_map xs]
theorem law230 (xs : List T) (sep : T) (h : xs.length ≤ 140737488355328) (h2 : (joinT xs sep).size ≤ 140737488355328) : F 230 [.sl .bor 1 (xs.map fun x => [.str x]), .str sep] [] = some (.str (joinT xs sep), []) :=
  lim_prim rfl (by rw [show P.prim = prim from rfl]; simp [prim, primGo, textsOf_map, h, h2])
theorem law231 (n : Int) (h : -9223372036854775808 ≤ n) (h2 : n ≤ 9223372036854775807) : F 231 [.int .i64 n] [] = some (.str (itoaT n), []) :=
  lim_prim rfl (by rw [show P.prim = prim from rfl]; simp [prim, primGo, h, h2])
theorem law221 (s : T) (h : s.size ≤ 281474976710656) : F 221 [.str s] [] = some (.int .i64 (numT s), []) :=
  lim_prim rfl (by rw [show P.prim = prim from rfl]; simp [prim, primGo, h])

/-! ### Sizes -/
theorem lit_size (a : Array UInt8) : (⟨a⟩ : T).size = a.size := rfl
theorem le_ok {a : Nat} (h : a ≤ 9223372036854775807) : (a ≤ 9223372036854775807) = True := by simp [h]
theorem text_ext {a b : T} (h : a.data.toList = b.data.toList) : a = b := by
  cases a; cases b; congr; exact Array.ext' h
theorem text_append (a b : T) : (a ++ b).data.toList = a.data.toList ++ b.data.toList := by
  simp
end Go.Proofs.YtaikddhcplfpmaaGreatDoor

namespace Go.Proofs.YtaikddhcplfpmaaGreatDoor
open Go
set_option linter.unusedSimpArgs false
set_option maxRecDepth 100000

def starOr (h : T) : T := if sEq h ⟨#[]⟩ then ⟨#[42]⟩ else h
def formWant (w : Want) : T := (⟨#[119, 97, 110, 116, 32]⟩ : T) ++ w.copy ++ (⟨#[32]⟩ : T) ++ dec w.version.toNat ++ (⟨#[32]⟩ : T) ++ starOr w.hold ++ (⟨#[32]⟩ : T) ++ dec w.pull.toNat ++ (⟨#[32]⟩ : T) ++ dec w.start.toNat ++ (⟨#[32]⟩ : T) ++ dec w.dies.toNat ++ (⟨#[32]⟩ : T) ++ dec w.grace.toNat ++ (⟨#[10]⟩ : T)

theorem law140' (n : Int) (h0 : 0 ≤ n) (hn : n ≤ 1000000) : F 140 [.int .i64 n] [] = some (.str (dec n.toNat), []) ∧ (dec n.toNat).size ≤ 7 := by
  have h := law140 n.toNat (by omega)
  rw [Int.toNat_of_nonneg h0] at h
  exact ⟨h, dec_size 6 n.toNat (by omega)⟩

theorem starOr_size {h : T} (k : h.size ≤ 20) : (starOr h).size ≤ 20 := by
  unfold starOr
  split
  · show (1 : Nat) ≤ 20; omega
  · exact k

/-- A want whose parts are in their bounds. -/
structure Want.fits (w : Want) : Prop where
  copy : w.copy.size ≤ 20
  hold : w.hold.size ≤ 20
  version : 0 ≤ w.version ∧ w.version ≤ 1000000
  pull : 0 ≤ w.pull ∧ w.pull ≤ 1000000
  start : 0 ≤ w.start ∧ w.start ≤ 1000000
  dies : 0 ≤ w.dies ∧ w.dies ≤ 1000000
  grace : 0 ≤ w.grace ∧ w.grace ≤ 1000000

theorem law240 (w : Want) (hw : w.fits) : F 240 [.agg w.c] [] = some (.str (formWant w), []) := by
  refine F_run fn240 rfl ?_
  obtain ⟨h1, h2, n1, n2, n3, n4, n5⟩ := hw
  obtain ⟨a1, b1⟩ := law140' _ n1.1 n1.2
  obtain ⟨a2, b2⟩ := law140' _ n2.1 n2.2
  obtain ⟨a3, b3⟩ := law140' _ n3.1 n3.2
  obtain ⟨a4, b4⟩ := law140' _ n4.1 n4.2
  obtain ⟨a5, b5⟩ := law140' _ n5.1 n5.2
  have hh := starOr_size h2
  have z1 : (⟨#[119, 97, 110, 116, 32]⟩ : T).size = 5 := rfl
  have z2 : (⟨#[32]⟩ : T).size = 1 := rfl
  have z3 : (⟨#[10]⟩ : T).size = 1 := rfl
  unfold formWant
  cases q : sEq w.hold ⟨#[]⟩
  · have e : starOr w.hold = w.hold := by simp [starOr, q]
    rw [e] at hh ⊢
    have s2 : (⟨#[119, 97, 110, 116, 32]⟩ : T).size + (w.copy).size ≤ 9223372036854775807 := by omega
    have s3 : (⟨#[119, 97, 110, 116, 32]⟩ : T).size + (w.copy).size + (⟨#[32]⟩ : T).size ≤ 9223372036854775807 := by omega
    have s4 : (⟨#[119, 97, 110, 116, 32]⟩ : T).size + (w.copy).size + (⟨#[32]⟩ : T).size + (dec w.version.toNat).size ≤ 9223372036854775807 := by omega
    have s5 : (⟨#[119, 97, 110, 116, 32]⟩ : T).size + (w.copy).size + (⟨#[32]⟩ : T).size + (dec w.version.toNat).size + (⟨#[32]⟩ : T).size ≤ 9223372036854775807 := by omega
    have s6 : (⟨#[119, 97, 110, 116, 32]⟩ : T).size + (w.copy).size + (⟨#[32]⟩ : T).size + (dec w.version.toNat).size + (⟨#[32]⟩ : T).size + (w.hold).size ≤ 9223372036854775807 := by omega
    have s7 : (⟨#[119, 97, 110, 116, 32]⟩ : T).size + (w.copy).size + (⟨#[32]⟩ : T).size + (dec w.version.toNat).size + (⟨#[32]⟩ : T).size + (w.hold).size + (⟨#[32]⟩ : T).size ≤ 9223372036854775807 := by omega
    have s8 : (⟨#[119, 97, 110, 116, 32]⟩ : T).size + (w.copy).size + (⟨#[32]⟩ : T).size + (dec w.version.toNat).size + (⟨#[32]⟩ : T).size + (w.hold).size + (⟨#[32]⟩ : T).size + (dec w.pull.toNat).size ≤ 9223372036854775807 := by omega
    have s9 : (⟨#[119, 97, 110, 116, 32]⟩ : T).size + (w.copy).size + (⟨#[32]⟩ : T).size + (dec w.version.toNat).size + (⟨#[32]⟩ : T).size + (w.hold).size + (⟨#[32]⟩ : T).size + (dec w.pull.toNat).size + (⟨#[32]⟩ : T).size ≤ 9223372036854775807 := by omega
    have s10 : (⟨#[119, 97, 110, 116, 32]⟩ : T).size + (w.copy).size + (⟨#[32]⟩ : T).size + (dec w.version.toNat).size + (⟨#[32]⟩ : T).size + (w.hold).size + (⟨#[32]⟩ : T).size + (dec w.pull.toNat).size + (⟨#[32]⟩ : T).size + (dec w.start.toNat).size ≤ 9223372036854775807 := by omega
    have s11 : (⟨#[119, 97, 110, 116, 32]⟩ : T).size + (w.copy).size + (⟨#[32]⟩ : T).size + (dec w.version.toNat).size + (⟨#[32]⟩ : T).size + (w.hold).size + (⟨#[32]⟩ : T).size + (dec w.pull.toNat).size + (⟨#[32]⟩ : T).size + (dec w.start.toNat).size + (⟨#[32]⟩ : T).size ≤ 9223372036854775807 := by omega
    have s12 : (⟨#[119, 97, 110, 116, 32]⟩ : T).size + (w.copy).size + (⟨#[32]⟩ : T).size + (dec w.version.toNat).size + (⟨#[32]⟩ : T).size + (w.hold).size + (⟨#[32]⟩ : T).size + (dec w.pull.toNat).size + (⟨#[32]⟩ : T).size + (dec w.start.toNat).size + (⟨#[32]⟩ : T).size + (dec w.dies.toNat).size ≤ 9223372036854775807 := by omega
    have s13 : (⟨#[119, 97, 110, 116, 32]⟩ : T).size + (w.copy).size + (⟨#[32]⟩ : T).size + (dec w.version.toNat).size + (⟨#[32]⟩ : T).size + (w.hold).size + (⟨#[32]⟩ : T).size + (dec w.pull.toNat).size + (⟨#[32]⟩ : T).size + (dec w.start.toNat).size + (⟨#[32]⟩ : T).size + (dec w.dies.toNat).size + (⟨#[32]⟩ : T).size ≤ 9223372036854775807 := by omega
    have s14 : (⟨#[119, 97, 110, 116, 32]⟩ : T).size + (w.copy).size + (⟨#[32]⟩ : T).size + (dec w.version.toNat).size + (⟨#[32]⟩ : T).size + (w.hold).size + (⟨#[32]⟩ : T).size + (dec w.pull.toNat).size + (⟨#[32]⟩ : T).size + (dec w.start.toNat).size + (⟨#[32]⟩ : T).size + (dec w.dies.toNat).size + (⟨#[32]⟩ : T).size + (dec w.grace.toNat).size ≤ 9223372036854775807 := by omega
    have s15 : (⟨#[119, 97, 110, 116, 32]⟩ : T).size + (w.copy).size + (⟨#[32]⟩ : T).size + (dec w.version.toNat).size + (⟨#[32]⟩ : T).size + (w.hold).size + (⟨#[32]⟩ : T).size + (dec w.pull.toNat).size + (⟨#[32]⟩ : T).size + (dec w.start.toNat).size + (⟨#[32]⟩ : T).size + (dec w.dies.toNat).size + (⟨#[32]⟩ : T).size + (dec w.grace.toNat).size + (⟨#[10]⟩ : T).size ≤ 9223372036854775807 := by omega
    simp [c240, q, a1, a2, a3, a4, a5, s2, s3, s4, s5, s6, s7, s8, s9, s10, s11, s12, s13, s14, s15]
  · have e : starOr w.hold = ⟨#[42]⟩ := by simp [starOr, q]
    rw [e] at hh ⊢
    have s2 : (⟨#[119, 97, 110, 116, 32]⟩ : T).size + (w.copy).size ≤ 9223372036854775807 := by omega
    have s3 : (⟨#[119, 97, 110, 116, 32]⟩ : T).size + (w.copy).size + (⟨#[32]⟩ : T).size ≤ 9223372036854775807 := by omega
    have s4 : (⟨#[119, 97, 110, 116, 32]⟩ : T).size + (w.copy).size + (⟨#[32]⟩ : T).size + (dec w.version.toNat).size ≤ 9223372036854775807 := by omega
    have s5 : (⟨#[119, 97, 110, 116, 32]⟩ : T).size + (w.copy).size + (⟨#[32]⟩ : T).size + (dec w.version.toNat).size + (⟨#[32]⟩ : T).size ≤ 9223372036854775807 := by omega
    have s6 : (⟨#[119, 97, 110, 116, 32]⟩ : T).size + (w.copy).size + (⟨#[32]⟩ : T).size + (dec w.version.toNat).size + (⟨#[32]⟩ : T).size + (⟨#[42]⟩ : T).size ≤ 9223372036854775807 := by omega
    have s7 : (⟨#[119, 97, 110, 116, 32]⟩ : T).size + (w.copy).size + (⟨#[32]⟩ : T).size + (dec w.version.toNat).size + (⟨#[32]⟩ : T).size + (⟨#[42]⟩ : T).size + (⟨#[32]⟩ : T).size ≤ 9223372036854775807 := by omega
    have s8 : (⟨#[119, 97, 110, 116, 32]⟩ : T).size + (w.copy).size + (⟨#[32]⟩ : T).size + (dec w.version.toNat).size + (⟨#[32]⟩ : T).size + (⟨#[42]⟩ : T).size + (⟨#[32]⟩ : T).size + (dec w.pull.toNat).size ≤ 9223372036854775807 := by omega
    have s9 : (⟨#[119, 97, 110, 116, 32]⟩ : T).size + (w.copy).size + (⟨#[32]⟩ : T).size + (dec w.version.toNat).size + (⟨#[32]⟩ : T).size + (⟨#[42]⟩ : T).size + (⟨#[32]⟩ : T).size + (dec w.pull.toNat).size + (⟨#[32]⟩ : T).size ≤ 9223372036854775807 := by omega
    have s10 : (⟨#[119, 97, 110, 116, 32]⟩ : T).size + (w.copy).size + (⟨#[32]⟩ : T).size + (dec w.version.toNat).size + (⟨#[32]⟩ : T).size + (⟨#[42]⟩ : T).size + (⟨#[32]⟩ : T).size + (dec w.pull.toNat).size + (⟨#[32]⟩ : T).size + (dec w.start.toNat).size ≤ 9223372036854775807 := by omega
    have s11 : (⟨#[119, 97, 110, 116, 32]⟩ : T).size + (w.copy).size + (⟨#[32]⟩ : T).size + (dec w.version.toNat).size + (⟨#[32]⟩ : T).size + (⟨#[42]⟩ : T).size + (⟨#[32]⟩ : T).size + (dec w.pull.toNat).size + (⟨#[32]⟩ : T).size + (dec w.start.toNat).size + (⟨#[32]⟩ : T).size ≤ 9223372036854775807 := by omega
    have s12 : (⟨#[119, 97, 110, 116, 32]⟩ : T).size + (w.copy).size + (⟨#[32]⟩ : T).size + (dec w.version.toNat).size + (⟨#[32]⟩ : T).size + (⟨#[42]⟩ : T).size + (⟨#[32]⟩ : T).size + (dec w.pull.toNat).size + (⟨#[32]⟩ : T).size + (dec w.start.toNat).size + (⟨#[32]⟩ : T).size + (dec w.dies.toNat).size ≤ 9223372036854775807 := by omega
    have s13 : (⟨#[119, 97, 110, 116, 32]⟩ : T).size + (w.copy).size + (⟨#[32]⟩ : T).size + (dec w.version.toNat).size + (⟨#[32]⟩ : T).size + (⟨#[42]⟩ : T).size + (⟨#[32]⟩ : T).size + (dec w.pull.toNat).size + (⟨#[32]⟩ : T).size + (dec w.start.toNat).size + (⟨#[32]⟩ : T).size + (dec w.dies.toNat).size + (⟨#[32]⟩ : T).size ≤ 9223372036854775807 := by omega
    have s14 : (⟨#[119, 97, 110, 116, 32]⟩ : T).size + (w.copy).size + (⟨#[32]⟩ : T).size + (dec w.version.toNat).size + (⟨#[32]⟩ : T).size + (⟨#[42]⟩ : T).size + (⟨#[32]⟩ : T).size + (dec w.pull.toNat).size + (⟨#[32]⟩ : T).size + (dec w.start.toNat).size + (⟨#[32]⟩ : T).size + (dec w.dies.toNat).size + (⟨#[32]⟩ : T).size + (dec w.grace.toNat).size ≤ 9223372036854775807 := by omega
    have s15 : (⟨#[119, 97, 110, 116, 32]⟩ : T).size + (w.copy).size + (⟨#[32]⟩ : T).size + (dec w.version.toNat).size + (⟨#[32]⟩ : T).size + (⟨#[42]⟩ : T).size + (⟨#[32]⟩ : T).size + (dec w.pull.toNat).size + (⟨#[32]⟩ : T).size + (dec w.start.toNat).size + (⟨#[32]⟩ : T).size + (dec w.dies.toNat).size + (⟨#[32]⟩ : T).size + (dec w.grace.toNat).size + (⟨#[10]⟩ : T).size ≤ 9223372036854775807 := by omega
    simp [c240, q, a1, a2, a3, a4, a5, s2, s3, s4, s5, s6, s7, s8, s9, s10, s11, s12, s13, s14, s15]
end Go.Proofs.YtaikddhcplfpmaaGreatDoor

namespace Go.Proofs.YtaikddhcplfpmaaGreatDoor
open Go
set_option linter.unusedSimpArgs false

/-- Ascending by a text. -/
def Asc {α : Type} (key : α → T) (xs : List α) : Prop := xs.Pairwise fun a b => sLt (key a) (key b) = true

def ascL {α : Type} (key : α → T) (pre : List α) (x : α) : Bool := match pre.getLast? with
  | none => true
  | some p => sLt (key p) (key x)

theorem asc_snoc {α : Type} (key : α → T) (pre : List α) (x : α) (h : Asc key pre) : ascL key pre x = true ↔ Asc key (pre ++ [x]) := by
  unfold Asc at *
  unfold ascL
  rw [List.pairwise_append]
  rcases List.eq_nil_or_concat pre with rfl | ⟨l, p, rfl⟩
  · simp
  · simp only [List.concat_eq_append, List.getLast?_append, List.getLast?_singleton, Option.some_or] at h ⊢
    constructor
    · intro hp
      refine ⟨h, List.pairwise_singleton _ _, fun a ha b hb => ?_⟩
      rw [List.mem_singleton.1 hb]
      rcases List.mem_append.1 ha with ha | ha
      · exact sLt_trans ((List.pairwise_append.1 h).2.2 a ha p (List.mem_singleton.2 rfl)) hp
      · rw [List.mem_singleton.1 ha]; exact hp
    · exact fun ⟨_, _, k⟩ => k p (List.mem_append_right _ (List.mem_singleton.2 rfl)) x (List.mem_singleton.2 rfl)

theorem ascR_eq (pre : List Run) (r : Run) : ascR pre r = ascL (fun x : Run => x.want.copy) pre r := by unfold ascR ascL; cases pre.getLast? <;> rfl
theorem ascA_eq (pre : List Ask) (r : Ask) : ascA pre r = ascL (fun x : Ask => x.hold) pre r := by unfold ascA ascL; cases pre.getLast? <;> rfl
theorem ascW_eq (pre : List Want) (r : Want) : ascW pre r = ascL (fun x : Want => x.copy) pre r := by unfold ascW ascL; cases pre.getLast? <;> rfl
theorem Asc.left {α : Type} {key : α → T} {a b : List α} (h : Asc key (a ++ b)) : Asc key a := (List.pairwise_append.1 h).1
theorem Asc.right {α : Type} {key : α → T} {a b : List α} (h : Asc key (a ++ b)) : Asc key b := (List.pairwise_append.1 h).2.1
theorem Asc.nil {α : Type} (key : α → T) : Asc key [] := List.Pairwise.nil

theorem runsGo_iff (c : Int) : ∀ (rs pre : List Run), Asc (·.want.copy) pre → (runsGo c pre rs = true ↔ (∀ r ∈ rs, runOk r c = true) ∧ Asc (·.want.copy) (pre ++ rs))
  | [], pre, h => by simp [runsGo, h]
  | r :: rs, pre, h => by
    have e := asc_snoc (fun x : Run => x.want.copy) pre r h
    rw [← ascR_eq] at e
    simp only [runsGo, Bool.and_eq_true]
    constructor
    · rintro ⟨h1, h2, h3⟩
      have h4 := e.1 h2
      obtain ⟨h5, h6⟩ := (runsGo_iff c rs (pre ++ [r]) h4).1 h3
      exact ⟨fun x hx => (List.mem_cons.1 hx).elim (fun q => q ▸ h1) (h5 x), by simpa using h6⟩
    · rintro ⟨h1, h2⟩
      have h3 : Asc (fun x : Run => x.want.copy) ((pre ++ [r]) ++ rs) := by simpa using h2
      exact ⟨h1 r List.mem_cons_self, e.2 h3.left, (runsGo_iff c rs (pre ++ [r]) h3.left).2 ⟨fun x hx => h1 x (List.mem_cons_of_mem _ hx), h3⟩⟩

theorem runsOk_iff (rs : List Run) (c : Int) : runsOk rs c = true ↔ rs.length ≤ 20 ∧ (∀ r ∈ rs, runOk r c = true) ∧ Asc (·.want.copy) rs := by
  simp only [runsOk, Bool.and_eq_true, decide_eq_true_eq]
  rw [runsGo_iff c rs [] (Asc.nil _)]
  rfl

theorem asksGo_iff (c : Int) : ∀ (l pre : List Ask), Asc (·.hold) pre → (asksGo c pre l = true ↔ (∀ r ∈ l, askOk c r = true) ∧ Asc (·.hold) (pre ++ l))
  | [], pre, h => by simp [asksGo, h]
  | r :: rs, pre, h => by
    have e := asc_snoc (fun x : Ask => x.hold) pre r h
    rw [← ascA_eq] at e
    simp only [asksGo, Bool.and_eq_true]
    constructor
    · rintro ⟨h1, h2, h3⟩
      have h4 := e.1 h2
      obtain ⟨h5, h6⟩ := (asksGo_iff c rs (pre ++ [r]) h4).1 h3
      exact ⟨fun x hx => (List.mem_cons.1 hx).elim (fun q => q ▸ h1) (h5 x), by simpa using h6⟩
    · rintro ⟨h1, h2⟩
      have h3 : Asc (fun x : Ask => x.hold) ((pre ++ [r]) ++ rs) := by simpa using h2
      exact ⟨h1 r List.mem_cons_self, e.2 h3.left, (asksGo_iff c rs (pre ++ [r]) h3.left).2 ⟨fun x hx => h1 x (List.mem_cons_of_mem _ hx), h3⟩⟩

theorem asksOk_iff (l : List Ask) (c : Int) : asksOk l c = true ↔ l.length ≤ 40 ∧ (∀ r ∈ l, askOk c r = true) ∧ Asc (·.hold) l := by
  simp only [asksOk, Bool.and_eq_true, decide_eq_true_eq]
  rw [asksGo_iff c l [] (Asc.nil _)]
  rfl

/-- No two have one hold. -/
def Apart (ws : List Want) : Prop := ws.Pairwise fun a b => sEq b.hold ⟨#[]⟩ = true ∨ sEq a.hold b.hold = false

theorem fresh_snoc (pre : List Want) (w : Want) (h : Apart pre) : freshW pre w = true ↔ Apart (pre ++ [w]) := by
  unfold Apart at *
  rw [List.pairwise_append]
  simp only [freshW, heldB, Bool.or_eq_true, Bool.not_eq_true', List.any_eq_false, Bool.not_eq_true]
  constructor
  · rintro (h1 | h1)
    · exact ⟨h, List.pairwise_singleton _ _, fun a _ b hb => by rw [List.mem_singleton.1 hb]; exact .inl h1⟩
    · exact ⟨h, List.pairwise_singleton _ _, fun a ha b hb => by rw [List.mem_singleton.1 hb]; exact .inr (h1 a ha)⟩
  · rintro ⟨_, _, k⟩
    by_cases e : sEq w.hold ⟨#[]⟩ = true
    · exact .inl e
    · exact .inr fun a ha => (k a ha w (List.mem_singleton.2 rfl)).resolve_left e

theorem wantsGo_iff : ∀ (l pre : List Want), Asc (·.copy) pre → Apart pre → (wantsGo pre l = true ↔ (∀ r ∈ l, wantOk r = true) ∧ Asc (·.copy) (pre ++ l) ∧ Apart (pre ++ l))
  | [], pre, h, k => by simp [wantsGo, h, k]
  | r :: rs, pre, h, k => by
    have e := asc_snoc (fun x : Want => x.copy) pre r h
    rw [← ascW_eq] at e
    have e2 := fresh_snoc pre r k
    simp only [wantsGo, Bool.and_eq_true]
    constructor
    · rintro ⟨h1, h2, h3, h7⟩
      have h4 := e.1 h2
      obtain ⟨h5, h6, h8⟩ := (wantsGo_iff rs (pre ++ [r]) h4 (e2.1 h3)).1 h7
      exact ⟨fun x hx => (List.mem_cons.1 hx).elim (fun q => q ▸ h1) (h5 x), by simpa using h6, by simpa using h8⟩
    · rintro ⟨h1, h2, h4⟩
      have h3 : Asc (fun x : Want => x.copy) ((pre ++ [r]) ++ rs) := by simpa using h2
      have h5 : Apart ((pre ++ [r]) ++ rs) := by simpa using h4
      have h6 : Apart (pre ++ [r]) := (List.pairwise_append.1 h5).1
      exact ⟨h1 r List.mem_cons_self, e.2 h3.left, e2.2 h6, (wantsGo_iff rs (pre ++ [r]) h3.left h6).2 ⟨fun x hx => h1 x (List.mem_cons_of_mem _ hx), h3, h5⟩⟩

theorem wantsOk_iff (ws : List Want) : wantsOk ws = true ↔ ws.length ≤ 10 ∧ (∀ w ∈ ws, wantOk w = true) ∧ Asc (·.copy) ws ∧ Apart ws := by
  simp only [wantsOk, Bool.and_eq_true, decide_eq_true_eq]
  rw [wantsGo_iff ws [] (Asc.nil _) List.Pairwise.nil]
  rfl

theorem isName_nil : isName ⟨#[]⟩ = false := by decide

theorem mateParts_iff (m : Mate) : mateParts m = true ↔ isName m.name = true ∧ inR m.clock 0 1000000 = true ∧ inR m.seen 0 1000000 = true ∧ wantsOk m.wants = true ∧ (m.known = true ∨ m.wants = []) ∧ runsOk m.runs m.clock = true ∧ asksOk m.asks m.clock = true ∧ asksOk m.gives m.clock = true := by
  simp only [mateParts, Bool.and_eq_true, Bool.or_eq_true, List.isEmpty_iff]

theorem mateValid_iff (m : Mate) : mateValid m = true ↔ mateParts m = true ∧ apartGo m.gives m.asks = true ∧ (m.up = true ∨ mateDown m = true) := by
  simp only [mateValid, Bool.and_eq_true, Bool.or_eq_true]

theorem asksOk_nil (c : Int) : asksOk [] c = true := by simp [asksOk, asksGo]
theorem wantsOk_nil : wantsOk [] = true := by simp [wantsOk, wantsGo]

theorem fallRun_ok {b : Bool} {r r' : Run} {c : Int} (h : runOk r c = true) (e : fallRun b r = some r') : runOk r' c = true ∧ r'.want = r.want ∧ (alive r' || !sEq r'.want.hold ⟨#[]⟩) = true ∧ alive r' = !b ∧ (b = false → r' = r ∧ alive r = true) := by
  unfold fallRun at e
  split at e
  case isFalse => cases e
  rename_i ha
  cases b
  · simp only [Bool.false_eq_true, if_false, Option.some.injEq] at e
    subst e
    exact ⟨h, rfl, by simp [ha], by simp [ha], fun _ => ⟨rfl, ha⟩⟩
  · simp only [if_true] at e
    split at e
    · cases e
    · rename_i hh
      simp only [Option.some.injEq] at e
      subst e
      have hh' : sEq r.want.hold ⟨#[]⟩ = false := by simpa using hh
      refine ⟨?_, rfl, by simp [hh'], by simp [alive, aliveS], fun h => by cases h⟩
      simp only [runOk, Bool.and_eq_true] at h ⊢
      obtain ⟨h1, h2, h3, h4, h5, h6, h7, h8⟩ := h
      exact ⟨h1, by simp [inR], by simp [inR], by simp, h5, h6, h7, by simp [alive, aliveS]⟩

theorem fall_valid {m : Mate} (b : Bool) (h : mateValid m = true) : mateValid (mateFall m b) = true := by
  obtain ⟨h1, h2, h3⟩ := (mateValid_iff m).1 h
  obtain ⟨p1, p2, p3, p4, p5, p6, p7, p8⟩ := (mateParts_iff m).1 h1
  obtain ⟨r1, r2, r3⟩ := (runsOk_iff _ _).1 p6
  unfold mateFall
  rw [if_pos h]
  refine (mateValid_iff _).2 ⟨(mateParts_iff _).2 ⟨p1, p2, by simp [Mate.zero, inR], wantsOk_nil, .inr rfl, (runsOk_iff _ _).2 ⟨?_, ?_, ?_⟩, asksOk_nil _, asksOk_nil _⟩, by simp [apartGo, Mate.zero], .inr ?_⟩
  · exact Nat.le_trans (List.length_filterMap_le _ _) r1
  · intro r hr
    obtain ⟨r0, k1, k2⟩ := List.mem_filterMap.1 hr
    exact (fallRun_ok (r2 r0 k1) k2).1
  · refine List.Pairwise.filterMap _ (fun a b' hab x hx y hy => ?_) r3
    · have hx' := hx
      have hy' := hy
      have e : ∀ {r r' : Run}, fallRun b r = some r' → r'.want = r.want := fun {r r'} e => by
        unfold fallRun at e
        split at e
        · split at e
          · split at e
            · cases e
            · rw [← Option.some.inj e]
          · rw [← Option.some.inj e]
        · cases e
      simp only at hab ⊢
      rw [e hx, e hy]; exact hab
  · simp only [mateDown, Mate.zero, Bool.not_false, List.isEmpty_nil, beq_self_eq_true, Bool.true_and, downRuns, List.all_eq_true]
    intro r hr
    obtain ⟨r0, k1, k2⟩ := List.mem_filterMap.1 hr
    exact (fallRun_ok (r2 r0 k1) k2).2.2.1

theorem rise_valid {m : Mate} (h : mateValid m = true) : mateValid (mateRise m) = true := by
  obtain ⟨h1, h2, h3⟩ := (mateValid_iff m).1 h
  unfold mateRise
  rw [if_pos h]
  refine (mateValid_iff _).2 ⟨h1, h2, ?_⟩
  simp only [Bool.or_eq_true]
  rcases h3 with h3 | h3
  · exact .inl (.inl h3)
  · exact .inr h3

theorem zero_invalid : mateValid .zero = false := by
  cases h : mateValid .zero with
  | false => rfl
  | true =>
    have := ((mateParts_iff _).1 ((mateValid_iff _).1 h).1).1
    simp [Mate.zero, isName_nil] at this
end Go.Proofs.YtaikddhcplfpmaaGreatDoor

namespace Go.Proofs.YtaikddhcplfpmaaGreatDoor
open Go
set_option linter.unusedSimpArgs false
set_option maxRecDepth 100000

/-- What is left of a size. -/
def off (l : Int) (n : Nat) : Int := if IntKind.i64.wrap (l - n) < 0 then -1 else IntKind.i64.wrap (l - n)
def offs (l : Int) : List Nat → Int
  | [] => l
  | n :: r => if off l n < 0 then -1 else offs (off l n) r

theorem off_neg {l : Int} {n : Nat} (h : IntKind.i64.wrap (l - n) < 0) : off l n = -1 := by rw [off, if_pos h]
theorem off_pos {l : Int} {n : Nat} (h : ¬ IntKind.i64.wrap (l - n) < 0) : off l n = IntKind.i64.wrap (l - n) := by rw [off, if_neg h]

def szWant (w : Want) (l : Int) : Int := offs l [w.copy.size, w.hold.size]
def szWantGo : List Want → Int → Int
  | [], l => l
  | w :: r, l => if szWant w l < 0 then -1 else szWantGo r (szWant w l)
def szWants (ws : List Want) (l : Int) : Int := if off l ws.length < 0 then -1 else szWantGo ws (off l ws.length)

theorem wrap_len {l : Int} {n : Nat} (h : ¬ IntKind.i64.wrap (l - n) < 0) (hn : n ≤ 9223372036854775807) (h0 : 0 ≤ l) (hx : l ≤ 1048576) : n ≤ 1048576 := by
  rw [IntKind.wrap_i64] at h
  omega

/-- A list that is filled from the left. -/
def fillU {α : Type} (c : α → List AV) (z : List AV) (ws : List α) (i : Nat) : List (List AV) := (ws.take i).map c ++ List.replicate (ws.length - i) z

section
variable {α : Type} (c : α → List AV) (z : List AV) {ws : List α} {i : Nat}
@[simp] theorem fillU_len : (fillU c z ws i).length = ws.length := by simp [fillU]; omega
theorem fillU_get (h : i < ws.length) : (fillU c z ws i)[i]? = some z := by
  have : (List.map c (ws.take i)).length = i := by simp; omega
  rw [fillU, List.getElem?_append_right (by omega), this, Nat.sub_self, List.getElem?_replicate, if_pos (by omega)]
@[simp] theorem fillU_at (h : i < (fillU c z ws i).length) : (fillU c z ws i)[i] = z := by
  have := fillU_get c z (ws := ws) (i := i) (by simpa using h)
  rw [List.getElem?_eq_getElem h] at this
  exact Option.some.inj this
theorem fillU_set {a : α} (h : ws[i]? = some a) : (fillU c z ws i).set i (c a) = fillU c z ws (i + 1) := by
  obtain ⟨hi, hg⟩ := List.getElem?_eq_some_iff.1 h
  have h1 : (List.map c (ws.take i)).length = i := by simp; omega
  rw [fillU, fillU, List.set_append_right _ _ (by omega), h1, Nat.sub_self, show ws.length - i = (ws.length - (i + 1)) + 1 by omega, List.replicate_succ, List.set_cons_zero, take_snoc h]
  simp
theorem fillU_zero : fillU c z ws 0 = List.replicate ws.length z := by simp [fillU]
theorem fillU_all : fillU c z ws ws.length = ws.map c := by simp [fillU]
end

def headToWant (ws : List Want) (i : Nat) : St := hd [(0, .sl .bor 7 (ws.map Want.c)), (3, .ref 0), (4, .int .i64 i)] [.arr 7 (fillU Want.c [.str ⟨#[]⟩, .int .i64 0, .str ⟨#[]⟩, .int .i64 0, .int .i64 0, .int .i64 0, .int .i64 0] ws i)] 0

def headSzWant (ws : List Want) (l : Int) (i : Nat) : St := hd [(0, .sl .bor 7 (ws.map Want.c)), (1, .int .i64 l), (5, .int .i64 i)] [] 0

def headEqWant (ws : List Want) (i : Nat) : St := hd [(0, .sl .bor 7 (ws.map Want.c)), (1, .sl .bor 7 (ws.map Want.c)), (5, .int .i64 i)] [] 0

theorem szWants_len {ws : List Want} {l : Int} (h : 0 ≤ szWants ws l) (hl : ws.length ≤ 9223372036854775807) (h0 : 0 ≤ l) (hx : l ≤ 1048576) : ws.length ≤ 1048576 := by
  unfold szWants at h
  by_cases h2 : IntKind.i64.wrap (l - ws.length) < 0
  · rw [off_neg h2] at h; simp at h
  · exact wrap_len h2 hl h0 hx
end Go.Proofs.YtaikddhcplfpmaaGreatDoor

namespace Go.Proofs.YtaikddhcplfpmaaGreatDoor
open Go
set_option linter.unusedSimpArgs false
set_option maxRecDepth 100000

def szRun (r : Run) (l : Int) : Int := if szWant r.want l < 0 then -1 else szWant r.want l
def szRunGo : List Run → Int → Int
  | [], l => l
  | w :: r, l => if szRun w l < 0 then -1 else szRunGo r (szRun w l)
def szRuns (ws : List Run) (l : Int) : Int := if off l ws.length < 0 then -1 else szRunGo ws (off l ws.length)

def headToRun (ws : List Run) (i : Nat) : St := hd [(0, .sl .bor 11 (ws.map Run.c)), (3, .ref 0), (4, .int .i64 i)] [.arr 11 (fillU Run.c [.str ⟨#[]⟩, .int .i64 0, .str ⟨#[]⟩, .int .i64 0, .int .i64 0, .int .i64 0, .int .i64 0, .int .i64 0, .int .i64 0, .int .i64 0, .int .i64 0] ws i)] 0

def headSzRun (ws : List Run) (l : Int) (i : Nat) : St := hd [(0, .sl .bor 11 (ws.map Run.c)), (1, .int .i64 l), (5, .int .i64 i)] [] 0

def headEqRun (ws : List Run) (i : Nat) : St := hd [(0, .sl .bor 11 (ws.map Run.c)), (1, .sl .bor 11 (ws.map Run.c)), (5, .int .i64 i)] [] 0

theorem szRuns_len {ws : List Run} {l : Int} (h : 0 ≤ szRuns ws l) (hl : ws.length ≤ 9223372036854775807) (h0 : 0 ≤ l) (hx : l ≤ 1048576) : ws.length ≤ 1048576 := by
  unfold szRuns at h
  by_cases h2 : IntKind.i64.wrap (l - ws.length) < 0
  · rw [off_neg h2] at h; simp at h
  · exact wrap_len h2 hl h0 hx
end Go.Proofs.YtaikddhcplfpmaaGreatDoor

namespace Go.Proofs.YtaikddhcplfpmaaGreatDoor
open Go
set_option linter.unusedSimpArgs false
set_option maxRecDepth 100000

/-- One more, as Go counts. -/
def up (k : Int) : Int := IntKind.i64.wrap (k + 1)
theorem up_fold (k : Int) : IntKind.i64.wrap (k + 1) = up k := rfl
theorem up_is {k : Int} (h0 : -9223372036854775808 ≤ k) (h1 : k < 9223372036854775807) : up k = k + 1 := i64w (by omega) (by omega)
def it (f : Int → Int) : Nat → Int → Int
  | 0, k => k
  | n + 1, k => f (it f n k)

def markByte (k : Nat) : UInt8 := UInt8.ofNat (IntKind.u8.wrap (IntKind.i64.wrap (48 + Int.tmod (k : Int) 10))).toNat
def markGo (k : Nat) (out : T) : T := if _ : k = 0 then out else markGo (k / 10) (⟨#[markByte k]⟩ ++ out)
termination_by k
decreasing_by omega
def markText (k : Int) : T := if k ≤ 0 then ⟨#[109, 48]⟩ else ⟨#[109]⟩ ++ markGo k.toNat ⟨#[]⟩

theorem size_app (a b : T) : (a ++ b).size = a.size + b.size := ByteArray.size_append

def head96 (k : Nat) (out : T) : St := hd [(0, .int .i64 k), (3, .str out)] [] 0

theorem markGo_size : ∀ (n k : Nat) (out : T), k < 10 ^ n → (markGo k out).size ≤ out.size + n
  | 0, k, out, h => by
    have : k = 0 := by simpa using h
    rw [markGo, dif_pos this]; omega
  | n + 1, k, out, h => by
    rw [markGo]
    split
    · omega
    · have h2 : k / 10 < 10 ^ n := Nat.div_lt_of_lt_mul (by rw [Nat.pow_succ] at h; omega)
      have := markGo_size n (k / 10) (⟨#[markByte k]⟩ ++ out) h2
      rw [size_app] at this
      have h1 : (⟨#[markByte k]⟩ : T).size = 1 := rfl
      omega

/-- A list whose first places are another's. -/
def mixU {α : Type} (c : α → List AV) (ws ms : List α) (i : Nat) : List (List AV) := (ms.take i).map c ++ (ws.drop i).map c

section
variable {α : Type} (c : α → List AV) {ws ms : List α} {i : Nat}
theorem mixU_len (h : ms.length = ws.length) (hi : i ≤ ws.length) : (mixU c ws ms i).length = ws.length := by simp [mixU]; omega
theorem mixU_get {a : α} (ha : ws[i]? = some a) (h : ms.length = ws.length) : (mixU c ws ms i)[i]? = some (c a) := by
  obtain ⟨hi, hg⟩ := List.getElem?_eq_some_iff.1 ha
  have h1 : (List.map c (ms.take i)).length = i := by simp; omega
  rw [mixU, List.getElem?_append_right (by omega), h1, Nat.sub_self, List.getElem?_map, List.getElem?_drop]
  simp [ha]
theorem mixU_set {b : α} (hb : ms[i]? = some b) (h : ms.length = ws.length) : (mixU c ws ms i).set i (c b) = mixU c ws ms (i + 1) := by
  obtain ⟨hi, hg⟩ := List.getElem?_eq_some_iff.1 hb
  have h1 : (List.map c (ms.take i)).length = i := by simp; omega
  rw [mixU, mixU, List.set_append_right _ _ (by omega), h1, Nat.sub_self, List.drop_eq_getElem_cons (show i < ws.length by omega), List.map_cons, List.set_cons_zero, take_snoc hb]
  simp
theorem mixU_at {a : α} (ha : ws[i]? = some a) (h : ms.length = ws.length) (hl : i < (mixU c ws ms i).length) : (mixU c ws ms i)[i] = c a := by
  have := mixU_get c ha h
  rw [List.getElem?_eq_getElem hl] at this
  exact Option.some.inj this
theorem mixU_same {a : α} (ha : ws[i]? = some a) (hb : ms[i]? = some a) (h : ms.length = ws.length) : mixU c ws ms i = mixU c ws ms (i + 1) := by
  have hi := (List.getElem?_eq_some_iff.1 ha).1
  have hl : i < (mixU c ws ms i).length := by rw [mixU_len c h (by omega)]; exact hi
  have := List.set_getElem_self (as := mixU c ws ms i) (i := i) hl
  rw [mixU_at c ha h hl] at this
  rw [← mixU_set c hb h, this]
theorem mixU_zero : mixU c ws ms 0 = ws.map c := by simp [mixU]
theorem mixU_all (h : ms.length = ws.length) : mixU c ws ms ws.length = ms.map c := by simp [mixU, ← h]
end

theorem it_upj {k : Int} (h0 : 0 ≤ k) (h1 : k ≤ 100000000000000) : ∀ j : Nat, j ≤ 100 → it up j k = k + j := by
  intro j
  induction j with
  | zero => intro _; simp [it]
  | succ j ih =>
    intro hj
    rw [it, ih (by omega), up_is (by omega) (by omega)]
    omega

def up4 (k : Int) : Int := up (up (up (up k)))
theorem up4_is {k : Int} (h0 : 0 ≤ k) (h1 : k ≤ 100000000000000) : up4 k = k + 4 := by
  have := it_upj h0 h1 4 (by omega)
  exact this
theorem it_up4 {k : Int} {n : Nat} (h0 : 0 ≤ k) (hk : k ≤ 10000000000000) (hn : n ≤ 1048576) : it up4 n k = k + 4 * n := by
  induction n with
  | zero => simp [it]
  | succ n ih =>
    have := ih (by omega)
    rw [it, this, up4_is (by omega) (by omega)]
    omega
theorem it_up_le4 {k : Int} {i : Nat} (h0 : 0 ≤ k) (hk : k ≤ 10000000000000) (hi : i ≤ 1048576) : ∀ j, j ≤ 11 → it up j (it up4 i k) ≤ 100000000000000 := by
  intro j hj
  have h1 := it_up4 (n := i) h0 hk hi
  have h2 : ∀ j, j ≤ 11 → it up j (it up4 i k) = it up4 i k + j := by
    intro j
    induction j with
    | zero => intro _; simp [it]
    | succ j ih =>
      intro hj
      rw [it, ih (by omega), up_is (by omega) (by omega)]
      omega
  rw [h2 j hj]
  omega

def up5 (k : Int) : Int := up (up (up (up (up k))))
theorem up5_is {k : Int} (h0 : 0 ≤ k) (h1 : k ≤ 100000000000000) : up5 k = k + 5 := by
  have := it_upj h0 h1 5 (by omega)
  exact this
theorem it_up5 {k : Int} {n : Nat} (h0 : 0 ≤ k) (hk : k ≤ 10000000000000) (hn : n ≤ 1048576) : it up5 n k = k + 5 * n := by
  induction n with
  | zero => simp [it]
  | succ n ih =>
    have := ih (by omega)
    rw [it, this, up5_is (by omega) (by omega)]
    omega
theorem it_up_le5 {k : Int} {i : Nat} (h0 : 0 ≤ k) (hk : k ≤ 10000000000000) (hi : i ≤ 1048576) : ∀ j, j ≤ 11 → it up j (it up5 i k) ≤ 100000000000000 := by
  intro j hj
  have h1 := it_up5 (n := i) h0 hk hi
  have h2 : ∀ j, j ≤ 11 → it up j (it up5 i k) = it up5 i k + j := by
    intro j
    induction j with
    | zero => intro _; simp [it]
    | succ j ih =>
      intro hj
      rw [it, ih (by omega), up_is (by omega) (by omega)]
      omega
  rw [h2 j hj]
  omega

def up7 (k : Int) : Int := up (up (up (up (up (up (up k))))))
theorem up7_is {k : Int} (h0 : 0 ≤ k) (h1 : k ≤ 100000000000000) : up7 k = k + 7 := by
  have := it_upj h0 h1 7 (by omega)
  exact this
theorem it_up7 {k : Int} {n : Nat} (h0 : 0 ≤ k) (hk : k ≤ 10000000000000) (hn : n ≤ 1048576) : it up7 n k = k + 7 * n := by
  induction n with
  | zero => simp [it]
  | succ n ih =>
    have := ih (by omega)
    rw [it, this, up7_is (by omega) (by omega)]
    omega
theorem it_up_le7 {k : Int} {i : Nat} (h0 : 0 ≤ k) (hk : k ≤ 10000000000000) (hi : i ≤ 1048576) : ∀ j, j ≤ 11 → it up j (it up7 i k) ≤ 100000000000000 := by
  intro j hj
  have h1 := it_up7 (n := i) h0 hk hi
  have h2 : ∀ j, j ≤ 11 → it up j (it up7 i k) = it up7 i k + j := by
    intro j
    induction j with
    | zero => intro _; simp [it]
    | succ j ih =>
      intro hj
      rw [it, ih (by omega), up_is (by omega) (by omega)]
      omega
  rw [h2 j hj]
  omega

def up11 (k : Int) : Int := up (up (up (up (up (up (up (up (up (up (up k))))))))))
theorem up11_is {k : Int} (h0 : 0 ≤ k) (h1 : k ≤ 100000000000000) : up11 k = k + 11 := by
  have := it_upj h0 h1 11 (by omega)
  exact this
theorem it_up11 {k : Int} {n : Nat} (h0 : 0 ≤ k) (hk : k ≤ 10000000000000) (hn : n ≤ 1048576) : it up11 n k = k + 11 * n := by
  induction n with
  | zero => simp [it]
  | succ n ih =>
    have := ih (by omega)
    rw [it, this, up11_is (by omega) (by omega)]
    omega
theorem it_up_le11 {k : Int} {i : Nat} (h0 : 0 ≤ k) (hk : k ≤ 10000000000000) (hi : i ≤ 1048576) : ∀ j, j ≤ 11 → it up j (it up11 i k) ≤ 100000000000000 := by
  intro j hj
  have h1 := it_up11 (n := i) h0 hk hi
  have h2 : ∀ j, j ≤ 11 → it up j (it up11 i k) = it up11 i k + j := by
    intro j
    induction j with
    | zero => intro _; simp [it]
    | succ j ih =>
      intro hj
      rw [it, ih (by omega), up_is (by omega) (by omega)]
      omega
  rw [h2 j hj]
  omega

end Go.Proofs.YtaikddhcplfpmaaGreatDoor

namespace Go.Proofs.YtaikddhcplfpmaaGreatDoor
open Go
set_option linter.unusedSimpArgs false
set_option maxRecDepth 100000

def markRun (k : Int) : Run := ⟨⟨markText (k), up k, markText (up (up k)), up (up (up k)), up (up (up (up k))), up (up (up (up (up k)))), up (up (up (up (up (up k)))))⟩, up (up (up (up (up (up (up k)))))), up (up (up (up (up (up (up (up k))))))), up (up (up (up (up (up (up (up (up k)))))))), up (up (up (up (up (up (up (up (up (up k)))))))))⟩
def marksRun (n : Nat) (k : Int) : List Run := (List.range n).map fun i => markRun (it up11 i k)

def headMkRun (ws : List Run) (k : Int) (i : Nat) : St := hd [(0, .ref 0), (1, .int .i64 (it up11 i k)), (5, .int .i64 i)] [.arr 11 (mixU Run.c ws (marksRun ws.length k) i)] 1

def headHlRun (m : Md) (ws : List Run) (k : Int) (i : Nat) : St := hd [(0, .sl m 11 (ws.map Run.c)), (1, .int .i64 (it up11 i k)), (5, .int .i64 i)] [] 0

end Go.Proofs.YtaikddhcplfpmaaGreatDoor

namespace Go.Proofs.YtaikddhcplfpmaaGreatDoor
open Go
set_option linter.unusedSimpArgs false
set_option maxRecDepth 100000

def szAsk (a : Ask) (l : Int) : Int := offs l [a.hold.size, a.copy.size]
def szAskGo : List Ask → Int → Int
  | [], l => l
  | w :: r, l => if szAsk w l < 0 then -1 else szAskGo r (szAsk w l)
def szAsks (ws : List Ask) (l : Int) : Int := if off l ws.length < 0 then -1 else szAskGo ws (off l ws.length)

def headToAsk (ws : List Ask) (i : Nat) : St := hd [(0, .sl .bor 4 (ws.map Ask.c)), (3, .ref 0), (4, .int .i64 i)] [.arr 4 (fillU Ask.c [.str ⟨#[]⟩, .str ⟨#[]⟩, .int .i64 0, .int .i64 0] ws i)] 0

def headSzAsk (ws : List Ask) (l : Int) (i : Nat) : St := hd [(0, .sl .bor 4 (ws.map Ask.c)), (1, .int .i64 l), (5, .int .i64 i)] [] 0

def headEqAsk (ws : List Ask) (i : Nat) : St := hd [(0, .sl .bor 4 (ws.map Ask.c)), (1, .sl .bor 4 (ws.map Ask.c)), (5, .int .i64 i)] [] 0

end Go.Proofs.YtaikddhcplfpmaaGreatDoor

namespace Go.Proofs.YtaikddhcplfpmaaGreatDoor
open Go
set_option linter.unusedSimpArgs false
set_option maxRecDepth 100000

theorem off_le {l : Int} {n : Nat} (h0 : 0 ≤ l) (hn : n ≤ maxLen) (h : 0 ≤ off l n) (hx : l ≤ 1048576) : off l n ≤ l ∧ n ≤ 1048576 := by
  have hm : maxLen = 9223372036854775807 := rfl
  by_cases h2 : IntKind.i64.wrap (l - n) < 0
  · rw [off_neg h2] at h; simp at h
  · rw [off_pos h2] at *
    rw [i64w (by omega) (by omega)] at *
    omega

theorem szWant_le {w : Want} {l : Int} (hw : w.wf) (h0 : 0 ≤ l) (hx : l ≤ 1048576) (h : 0 ≤ szWant w l) : szWant w l ≤ l := by
  unfold szWant offs offs offs at *
  split at h
  · simp at h
  · rename_i h1
    have k1 := off_le h0 hw.copy (by omega) hx
    rw [if_neg h1]
    split at h
    · simp at h
    · rename_i h2
      have k2 := off_le (l := off l w.copy.size) (by omega) hw.hold (by omega) (by omega)
      rw [if_neg h2]
      omega

theorem szRun_le {w : Run} {l : Int} (hw : w.wf) (h0 : 0 ≤ l) (hx : l ≤ 1048576) (h : 0 ≤ szRun w l) : szRun w l ≤ l := by
  unfold szRun at *
  split at h
  · simp at h
  · rename_i h1
    rw [if_neg h1]
    exact szWant_le hw.want h0 hx h

theorem szAsk_le {w : Ask} {l : Int} (hw : w.wf) (h0 : 0 ≤ l) (hx : l ≤ 1048576) (h : 0 ≤ szAsk w l) : szAsk w l ≤ l := by
  unfold szAsk offs offs offs at *
  split at h
  · simp at h
  · rename_i h1
    have k1 := off_le h0 hw.hold (by omega) hx
    rw [if_neg h1]
    split at h
    · simp at h
    · rename_i h2
      have k2 := off_le (l := off l w.hold.size) (by omega) hw.copy (by omega) (by omega)
      rw [if_neg h2]
      omega

theorem szWants_le {ws : List Want} {l : Int} (hw : ListWf Want.wf ws) (h0 : 0 ≤ l) (hx : l ≤ 1048576) (h : 0 ≤ szWants ws l) : szWants ws l ≤ l ∧ ws.length ≤ 1048576 := by
  have go : ∀ (ws : List Want) (l : Int), (∀ w ∈ ws, w.wf) → 0 ≤ l → l ≤ 1048576 → 0 ≤ szWantGo ws l → szWantGo ws l ≤ l := by
    intro ws
    induction ws with
    | nil => intro l _ _ _ _; exact Int.le_refl _
    | cons w r ih =>
      intro l hw h0 hx h
      simp only [szWantGo] at h ⊢
      split at h
      · simp at h
      · rename_i h1
        rw [if_neg h1]
        have k1 := szWant_le (hw w List.mem_cons_self) h0 hx (by omega)
        have := ih _ (fun x hx => hw x (List.mem_cons_of_mem _ hx)) (by omega) (by omega) h
        omega
  unfold szWants at *
  split at h
  · simp at h
  · rename_i h1
    have k1 := off_le h0 hw.len (by omega) hx
    rw [if_neg h1]
    have := go ws _ hw.all (by omega) (by omega) h
    omega

theorem szRuns_le {ws : List Run} {l : Int} (hw : ListWf Run.wf ws) (h0 : 0 ≤ l) (hx : l ≤ 1048576) (h : 0 ≤ szRuns ws l) : szRuns ws l ≤ l ∧ ws.length ≤ 1048576 := by
  have go : ∀ (ws : List Run) (l : Int), (∀ w ∈ ws, w.wf) → 0 ≤ l → l ≤ 1048576 → 0 ≤ szRunGo ws l → szRunGo ws l ≤ l := by
    intro ws
    induction ws with
    | nil => intro l _ _ _ _; exact Int.le_refl _
    | cons w r ih =>
      intro l hw h0 hx h
      simp only [szRunGo] at h ⊢
      split at h
      · simp at h
      · rename_i h1
        rw [if_neg h1]
        have k1 := szRun_le (hw w List.mem_cons_self) h0 hx (by omega)
        have := ih _ (fun x hx => hw x (List.mem_cons_of_mem _ hx)) (by omega) (by omega) h
        omega
  unfold szRuns at *
  split at h
  · simp at h
  · rename_i h1
    have k1 := off_le h0 hw.len (by omega) hx
    rw [if_neg h1]
    have := go ws _ hw.all (by omega) (by omega) h
    omega

theorem szAsks_le {ws : List Ask} {l : Int} (hw : ListWf Ask.wf ws) (h0 : 0 ≤ l) (hx : l ≤ 1048576) (h : 0 ≤ szAsks ws l) : szAsks ws l ≤ l ∧ ws.length ≤ 1048576 := by
  have go : ∀ (ws : List Ask) (l : Int), (∀ w ∈ ws, w.wf) → 0 ≤ l → l ≤ 1048576 → 0 ≤ szAskGo ws l → szAskGo ws l ≤ l := by
    intro ws
    induction ws with
    | nil => intro l _ _ _ _; exact Int.le_refl _
    | cons w r ih =>
      intro l hw h0 hx h
      simp only [szAskGo] at h ⊢
      split at h
      · simp at h
      · rename_i h1
        rw [if_neg h1]
        have k1 := szAsk_le (hw w List.mem_cons_self) h0 hx (by omega)
        have := ih _ (fun x hx => hw x (List.mem_cons_of_mem _ hx)) (by omega) (by omega) h
        omega
  unfold szAsks at *
  split at h
  · simp at h
  · rename_i h1
    have k1 := off_le h0 hw.len (by omega) hx
    rw [if_neg h1]
    have := go ws _ hw.all (by omega) (by omega) h
    omega

/-- One part after another. -/
def szThen (a : Int) (f : Int → Int) : Int := if a < 0 then -1 else f a
def szMate (m : Mate) (l : Int) : Int := szThen (off l m.name.size) fun l => szThen (szWants m.wants l) fun l => szThen (szRuns m.runs l) fun l => szThen (szAsks m.asks l) fun l => szAsks m.gives l

theorem szThen_neg {a : Int} {f : Int → Int} (h : a < 0) : szThen a f = -1 := if_pos h
theorem szThen_pos {a : Int} {f : Int → Int} (h : 0 ≤ a) : szThen a f = f a := if_neg (by omega)

end Go.Proofs.YtaikddhcplfpmaaGreatDoor

namespace Go.Proofs.YtaikddhcplfpmaaGreatDoor
open Go
set_option linter.unusedSimpArgs false
set_option maxRecDepth 100000

def markWant (k : Int) : Want := ⟨markText (k), up k, markText (up (up k)), up (up (up k)), up (up (up (up k))), up (up (up (up (up k)))), up (up (up (up (up (up k)))))⟩
def marksWant (n : Nat) (k : Int) : List Want := (List.range n).map fun i => markWant (it up7 i k)

def headMkWant (ws : List Want) (k : Int) (i : Nat) : St := hd [(0, .ref 0), (1, .int .i64 (it up7 i k)), (5, .int .i64 i)] [.arr 7 (mixU Want.c ws (marksWant ws.length k) i)] 1

def headHlWant (m : Md) (ws : List Want) (k : Int) (i : Nat) : St := hd [(0, .sl m 7 (ws.map Want.c)), (1, .int .i64 (it up7 i k)), (5, .int .i64 i)] [] 0

def markAsk (k : Int) : Ask := ⟨markText (k), markText (up k), up (up k), up (up (up k))⟩
def marksAsk (n : Nat) (k : Int) : List Ask := (List.range n).map fun i => markAsk (it up4 i k)

def headMkAsk (ws : List Ask) (k : Int) (i : Nat) : St := hd [(0, .ref 0), (1, .int .i64 (it up4 i k)), (5, .int .i64 i)] [.arr 4 (mixU Ask.c ws (marksAsk ws.length k) i)] 1

def headHlAsk (m : Md) (ws : List Ask) (k : Int) (i : Nat) : St := hd [(0, .sl m 4 (ws.map Ask.c)), (1, .int .i64 (it up4 i k)), (5, .int .i64 i)] [] 0

def markMate (m : Mate) (k : Int) : Mate :=
  { m with
    wants := marksWant m.wants.length k
    runs := marksRun m.runs.length (k + 7 * m.wants.length)
    asks := marksAsk m.asks.length (k + 7 * m.wants.length + 11 * m.runs.length)
    gives := marksAsk m.gives.length (k + 7 * m.wants.length + 11 * m.runs.length + 4 * m.asks.length) }
def markMateK (m : Mate) (k : Int) : Int := k + 7 * m.wants.length + 11 * m.runs.length + 4 * m.asks.length + 4 * m.gives.length

/-- A mate's cells, its lists being the arrays from n on. -/
def Mate.refs (n : Nat) (x : Mate) : List AV := [.str x.name, .bool x.up, .int .i64 x.clock, .bool x.known, .int .i64 x.seen, .ref n, .ref (n + 1), .ref (n + 2), .ref (n + 3)]
def Mate.arrs (x : Mate) : List AO := [.arr 7 (x.wants.map Want.c), .arr 11 (x.runs.map Run.c), .arr 4 (x.asks.map Ask.c), .arr 4 (x.gives.map Ask.c)]

theorem markMateK_pos {m : Mate} {k : Int} (h : 0 ≤ k) : ¬ (markMateK m k < 0) := by unfold markMateK; omega
end Go.Proofs.YtaikddhcplfpmaaGreatDoor

namespace Go.Proofs.YtaikddhcplfpmaaGreatDoor
open Go
set_option linter.unusedSimpArgs false
set_option maxRecDepth 100000

structure Parcel.small (p : Parcel) : Prop where
  wants : p.wants.length ≤ 1048576

end Go.Proofs.YtaikddhcplfpmaaGreatDoor
