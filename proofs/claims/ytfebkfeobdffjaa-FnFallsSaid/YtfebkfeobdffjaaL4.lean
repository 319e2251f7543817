/- Draws: mates. -/
import Derived.Test.YtfebkfeobdffjaaL3
import Derived.Test.YtfebkfeobdffjaaA5
namespace Go.Proofs.Ytfebkfeobdffjaa
open Go
set_option linter.unusedSimpArgs false
set_option maxRecDepth 100000

def findW (l : List Want) (n : T) : Option Want := l.find? fun w => sEq w.copy n

def head161 (ws : List Want) (n : T) (i : Nat) : St := hd [(0, .sl .bor 7 (ws.map Want.c)), (1, .str n), (4, .ptr 0 0 0), (6, .int .i64 i)] [.box Want.zero.c] 0

theorem law161 (ws : List Want) (n : T) (hl : ws.length < big) : F 161 [.sl .bor 7 (ws.map Want.c), .str n] [] = some (.tup [.agg ((findW ws n).getD .zero).c, .bool (findW ws n).isSome], []) := by
  refine F_run fn161 rfl ?_
  have hm : ws.length ≤ 9223372036854775807 := by unfold big at hl; omega
  simp [c161]
  refine (loop_list ws (fun i (_ : Unit) => head161 ws n i) (fun _ _ => True) (fun _ r l => (AV.tup [.agg ((findW r n).getD .zero).c, .bool (findW r n).isSome], ([] : List (Option AO)))) (fun acc Y _ => ?_) (fun i a r acc Y ha hi hr _ hY => ?_) () ?_ trivial ?_).trans rfl
  · simp [head161, c161b0, findW, Want.zero]
  · have hw : IntKind.i64.wrap ((i : Int) + 1) = (i : Int) + 1 := i64w (by omega) (by omega)
    obtain ⟨_, hg⟩ := List.getElem?_eq_some_iff.1 ha
    cases q : sEq a.copy n
    · simp [head161, c161b0, hi, hg, findW, Want.zero, q]
      refine hY () _ trivial ?_
      simp [head161, hw, Want.zero]
    · simp [head161, c161b0, hi, hg, findW, Want.zero, q]
  · simp [head161, Want.zero]
  · exact hl

theorem findW_tame {l : List Want} (h : ∀ w ∈ l, w.tame) (n : T) : ((findW l n).getD .zero).tame := by
  cases e : findW l n with
  | none => exact Want.zero_tame
  | some w => exact h w (List.mem_of_find?_eq_some e)

structure Ask.tame (a : Ask) : Prop where
  hold : a.hold.size ≤ 1000
  copy : a.copy.size ≤ 1000
  first : Ytfebkfeobdffjaa.tame a.first
  at_ : Ytfebkfeobdffjaa.tame a.at_
structure Mate.tameN (k : Nat) (m : Mate) : Prop where
  name : m.name.size ≤ 1000
  clock : Ytfebkfeobdffjaa.tame m.clock
  seen : Ytfebkfeobdffjaa.tame m.seen
  nwants : m.wants.length ≤ k
  wants : ∀ w ∈ m.wants, w.tame
  nruns : m.runs.length ≤ k
  runs : ∀ r ∈ m.runs, r.tame
  nasks : m.asks.length ≤ k
  asks : ∀ a ∈ m.asks, a.tame
  ngives : m.gives.length ≤ k
  gives : ∀ a ∈ m.gives, a.tame
abbrev Mate.tame (m : Mate) : Prop := m.tameN 20
theorem Mate.tameN.up {k k' : Nat} {m : Mate} (h : m.tameN k) (hk : k ≤ k') : m.tameN k' :=
  ⟨h.name, h.clock, h.seen, Nat.le_trans h.nwants hk, h.wants, Nat.le_trans h.nruns hk, h.runs, Nat.le_trans h.nasks hk, h.asks, Nat.le_trans h.ngives hk, h.gives⟩
theorem Mate.tameN.small {k : Nat} {m : Mate} (h : m.tameN k) (hk : k ≤ 1000) : m.small := by
  obtain ⟨_, _, _, h1, _, h2, _, h3, _, h4, _⟩ := h
  exact ⟨by omega, by omega, by omega, by omega⟩

theorem selN3 (a b c : T) {k : Nat} (h : k < [[AV.str a], [.str b], [.str c]].length) : [[AV.str a], [.str b], [.str c]][k]'h = [.str ([a, b, c].getD k ⟨#[]⟩)] := by
  rcases k with _ | _ | _ | k <;> first | rfl | (simp at h; omega)

def wn (wk : Bool) : Nat := if wk then 1 else 0
def an (l : List Ask) : Nat := if l = [] then 0 else 1
/-- A mate's cells, its arrays being numbered from n on; its wants may be nil. -/
def cellsB (n : Nat) (wk : Bool) (m : Mate) : List AV :=
  [.str m.name, .bool m.up, .int .i64 m.clock, .bool m.known, .int .i64 m.seen, if wk then .ref n else .sl .own 7 [], .ref (n + wn wk), ownVi (n + wn wk + 1) 4 (m.asks.map Ask.c), ownVi (n + wn wk + 1 + an m.asks) 4 (m.gives.map Ask.c)]
def arrsB (wk : Bool) (m : Mate) : List AO := (if wk then [.arr 7 (m.wants.map Want.c)] else []) ++ .arr 11 (m.runs.map Run.c) :: (ownH 4 (m.asks.map Ask.c) ++ ownH 4 (m.gives.map Ask.c))

def head156b (bs : List Int) (p : Int) (wk : Bool) (m : Mate) (i : Nat) : St :=
  hd [(0, .ptr 0 0 0), (2, .ptr 1 0 0), (3, .ptr 2 0 0), (7, .int .i64 i)] (rdBox bs p :: .box zeroCells :: .box (cellsB 3 wk m) :: arrsB wk m) 1
def head156c (bs : List Int) (p : Int) (wk : Bool) (m : Mate) (i : Nat) (a : Ask) (j : Nat) : St :=
  hd [(0, .ptr 0 0 0), (2, .ptr 1 0 0), (3, .ptr 2 0 0), (7, .int .i64 i), (8, .ptr 3 0 0), (9, .int .i64 j)] (rdBox bs p :: .box zeroCells :: .box (cellsB 4 wk m) :: .box a.c :: arrsB wk m) 1

theorem hp_get : ∀ (os : List AO) (n j : Nat), Ytfebkfeobdffjaa.hp os n (n + j) = os[j]?
  | [], n, j => by simp [Ytfebkfeobdffjaa.hp]
  | o :: os, n, 0 => by simp [Ytfebkfeobdffjaa.hp, upd]
  | o :: os, n, j + 1 => by
    have h := hp_get os (n + 1) j
    rw [show n + 1 + j = n + (j + 1) by omega] at h
    have e : ¬ (n + (j + 1) = n) := by omega
    simp [Ytfebkfeobdffjaa.hp, upd, h, e]

theorem mem_snoc {α : Type} {l : List α} {P : α → Prop} (h : ∀ x ∈ l, P x) {y : α} (hy : P y) : ∀ x ∈ l ++ [y], P x := by
  intro x hx
  rcases List.mem_append.1 hx with hx | hx
  · exact h x hx
  · rw [List.mem_singleton.1 hx]; exact hy

/-- A state in the midst of a mate's draw. -/
structure Mid (bs : List Int) (q : Int) (wk : Bool) (m : Mate) (i : Nat) (a : Ask) (s : St) : Prop where
  s0 : s.slots 0 = .ptr 0 0 0
  s2 : s.slots 2 = .ptr 1 0 0
  s3 : s.slots 3 = .ptr 2 0 0
  s7 : s.slots 7 = .int .i64 i
  s8 : s.slots 8 = .ptr 3 0 0
  h0 : s.heap 0 = some (rdBox bs q)
  h1 : s.heap 1 = some (.box zeroCells)
  h2 : s.heap 2 = some (.box (cellsB 4 wk m))
  h3 : s.heap 3 = some (.box a.c)
  hx : ∀ k, k < 5 → s.heap (4 + k) = (arrsB wk m)[k]?
  nx : 100 ≤ s.next
  base : s.base = 1

def codeEnd : CCode := (.seq (.region [⟨some 160, .mov (.tmp 0), none⟩, ⟨some 161, .call 89 [true, false] [.tmp 160, .const (.int .i64 4)], none⟩] [0, 2, 3, 7, 8, 161])
  (.block 6 (.seq (.seq (.region [⟨some 163, .bin .eql (.tmp 161) (.const (.int .i64 0)), none⟩, ⟨some 162, .mov (.tmp 163), none⟩] [0, 2, 3, 7, 8, 161, 162]) (.cond (.tmp 162) .skip (.region [⟨some 164, .bin .eql (.tmp 161) (.const (.int .i64 1)), none⟩, ⟨some 162, .mov (.tmp 164), none⟩] [0, 2, 3, 7, 8, 161, 162])))
    (.cond (.tmp 162) (.region [⟨some 165, .faddr (.tmp 3) 7, none⟩, ⟨some 166, .load (.tmp 165) 1 false .plain, none⟩, ⟨some 167, .load (.tmp 8) 4 true .plain, none⟩, ⟨some 168, .bslice 4 [.str ⟨#[]⟩, .str ⟨#[]⟩, .int .i64 0, .int .i64 0] 1 [(0, .tmp 167)], none⟩, ⟨some 169, .append 4 48 true (.tmp 166) (.tmp 168), none⟩, ⟨some 170, .faddr (.tmp 3) 7, none⟩, ⟨none, .store (.tmp 170) (.tmp 169) 1, none⟩] [0, 2, 3, 7])
      (.seq (.region [⟨some 172, .bin .eql (.tmp 161) (.const (.int .i64 2)), none⟩, ⟨some 171, .mov (.tmp 172), none⟩] [0, 2, 3, 7, 8, 171])
        (.cond (.tmp 171) (.region [⟨some 173, .faddr (.tmp 3) 8, none⟩, ⟨some 174, .load (.tmp 173) 1 false .plain, none⟩, ⟨some 175, .load (.tmp 8) 4 true .plain, none⟩, ⟨some 176, .bslice 4 [.str ⟨#[]⟩, .str ⟨#[]⟩, .int .i64 0, .int .i64 0] 1 [(0, .tmp 175)], none⟩, ⟨some 177, .append 4 48 true (.tmp 174) (.tmp 176), none⟩, ⟨some 178, .faddr (.tmp 3) 8, none⟩, ⟨none, .store (.tmp 178) (.tmp 177) 1, none⟩] [0, 2, 3, 7]) .skip))))))

theorem draw_end {Q : AV × List (Option AO) → Prop} {Y : St → Option (AExit × St)} {fs2 : List Fr} (bs : List Int) (q : Int) (wk : Bool) (m : Mate) (i : Nat) (a : Ask) (hb : Code bs) (h0 : 0 ≤ q) (hq : q ≤ 10000000000) (hi : i < 3) (hA : m.asks.length ≤ 3) (hG : m.gives.length ≤ 3)
    (hY : ∀ m' s', (m' = m ∨ m' = { m with asks := m.asks ++ [a] } ∨ m' = { m with gives := m.gives ++ [a] }) → s'.norm [0, 2, 3, 7] = head156b bs (q + 1) wk m' (i + 1) → Ends (fin [CRes.cell 2 9 true] 1 (Y s')) Q) (s : St) (hs : Mid bs q wk m i a s) :
    Ends (fin [CRes.cell 2 9 true] 1 (X F (.code codeEnd :: .blk 3 :: .code (.region [⟨some 100, .mov (.tmp 7), none⟩, ⟨some 101, .bin .add (.tmp 100) (.const (.int .i64 1)), none⟩, ⟨some 7, .mov (.tmp 101), none⟩] [0, 2, 3, 7]) :: .back Y :: fs2) (.normal, s))) Q := by
  obtain ⟨s0, s2, s3, s7, s8, g0, g1, g2, g3, gx, nx0, base⟩ := hs
  obtain ⟨n, nx⟩ : ∃ n, s.next = n + 100 := ⟨s.next - 100, by omega⟩
  obtain ⟨a1, a2, a3⟩ := law89 bs q 4 hb h0 (by omega) (by omega)
  have hw : IntKind.i64.wrap ((i : Int) + 1) = (i : Int) + 1 := i64w (by omega) (by omega)
  simp only [rdBox] at a1 g0
  have gx4 := gx 0 (by omega)
  have gx5 := gx 1 (by omega)
  have gx6 := gx 2 (by omega)
  have gx7 := gx 3 (by omega)
  have e3 : (m.asks.length + 1) * 48 ≤ 140737488355328 := by omega
  have e4 : m.asks.length + 1 ≤ 140737488355328 := by omega
  have e5 : (m.gives.length + 1) * 48 ≤ 140737488355328 := by omega
  have e6 : m.gives.length + 1 ≤ 140737488355328 := by omega
  by_cases k0 : pickV bs q 4 = 0 ∨ pickV bs q 4 = 1
  · cases wk <;> rcases hAA : m.asks with _ | ⟨x, as⟩ <;> rcases hGG : m.gives with _ | ⟨y, gs⟩ <;> rw [hAA] at e3 e4 <;> rcases k0 with k0 | k0 <;>
    · simp [arrsB, hAA, hGG] at gx4 gx5 gx6 gx7
      simp at e3 e4
      simp [codeEnd, s0, s2, s3, s7, s8, g0, g1, g2, g3, gx4, gx5, gx6, gx7, nx, base, a1, k0, cellsB, wn, an, hAA, hGG, takeRows, rowsPlain, e3, e4]
      refine hY { m with asks := m.asks ++ [a] } _ (.inr (.inl rfl)) ?_
      simp [head156b, rdBox, cellsB, zeroCells, arrsB, wn, an, hAA, hGG, hw, g1, g2, gx4, gx5, gx6, gx7, base]
  by_cases k2 : pickV bs q 4 = 2
  · cases wk <;> rcases hAA : m.asks with _ | ⟨x, as⟩ <;> rcases hGG : m.gives with _ | ⟨y, gs⟩ <;> rw [hGG] at e5 e6 <;>
    · simp [arrsB, hAA, hGG] at gx4 gx5 gx6 gx7
      simp at e5 e6
      simp [codeEnd, s0, s2, s3, s7, s8, g0, g1, g2, g3, gx4, gx5, gx6, gx7, nx, base, a1, k2, cellsB, wn, an, hAA, hGG, takeRows, rowsPlain, e5, e6]
      refine hY { m with gives := m.gives ++ [a] } _ (.inr (.inr rfl)) ?_
      simp [head156b, rdBox, cellsB, zeroCells, arrsB, wn, an, hAA, hGG, hw, g1, g2, gx4, gx5, gx6, gx7, base]
  · have k0a : ¬ pickV bs q 4 = 0 := fun h => k0 (.inl h)
    have k0b : ¬ pickV bs q 4 = 1 := fun h => k0 (.inr h)
    cases wk <;> rcases hAA : m.asks with _ | ⟨x, as⟩ <;> rcases hGG : m.gives with _ | ⟨y, gs⟩ <;>
    · simp [arrsB, hAA, hGG] at gx4 gx5 gx6 gx7
      simp [codeEnd, s0, s2, s3, s7, s8, g0, g1, g2, g3, nx, base, a1, k0a, k0b, k2]
      refine hY m _ (.inl rfl) ?_
      simp [head156b, rdBox, cellsB, zeroCells, arrsB, wn, an, hAA, hGG, hw, g1, g2, gx4, gx5, gx6, gx7, base]

def codeD : CCode := .seq (.loud [⟨some 150, .faddr (.tmp 8) 3, none⟩, ⟨some 151, .load (.tmp 150) 1 false .plain, none⟩, ⟨some 152, .mov (.tmp 0), none⟩, ⟨some 153, .call 89 [true, false] [.tmp 152, .const (.int .i64 6)], none⟩, ⟨some 154, .bin .sub (.tmp 151) (.tmp 153), none⟩, ⟨some 155, .faddr (.tmp 8) 2, none⟩, ⟨none, .store (.tmp 155) (.tmp 154) 1, none⟩] [0, 1, 0, 4, 15, 31, 63] [0, 2, 3, 7, 8])
  (.seq (.seq (.region [⟨some 156, .faddr (.tmp 8) 2, none⟩, ⟨some 157, .load (.tmp 156) 1 false .plain, none⟩, ⟨some 158, .bin .lss (.tmp 157) (.const (.int .i64 0)), none⟩] [0, 2, 3, 7, 8, 158]) (.cond (.tmp 158) (.region [⟨some 159, .faddr (.tmp 8) 2, none⟩, ⟨none, .store (.tmp 159) (.const (.int .i64 0)) 1, none⟩] [0, 2, 3, 7, 8]) .skip)) codeEnd)
def codeC : CCode := .seq (.seq (.region [⟨some 146, .faddr (.tmp 8) 3, none⟩, ⟨some 147, .load (.tmp 146) 1 false .plain, none⟩, ⟨some 148, .bin .lss (.tmp 147) (.const (.int .i64 0)), none⟩] [0, 2, 3, 7, 8, 148]) (.cond (.tmp 148) (.region [⟨some 149, .faddr (.tmp 8) 3, none⟩, ⟨none, .store (.tmp 149) (.const (.int .i64 0)) 1, none⟩] [0, 2, 3, 7, 8]) .skip)) codeD

/-- What an ask becomes before it is put into a list. -/
def askFix (a : Ask) (x : Int) : Ask :=
  let t := if a.at_ < 0 then 0 else a.at_
  { a with at_ := t, first := if t - x < 0 then 0 else t - x }

theorem draw_rest {Q : AV × List (Option AO) → Prop} {Y : St → Option (AExit × St)} {fs2 : List Fr} (bs : List Int) (q : Int) (wk : Bool) (m : Mate) (i : Nat) (a : Ask) (hb : Code bs) (h0 : 0 ≤ q) (hq : q ≤ 2000000000) (hi : i < 3) (hA : m.asks.length ≤ 3) (hG : m.gives.length ≤ 3) (hat : tame a.at_)
    (hY : ∀ m' s', (m' = m ∨ m' = { m with asks := m.asks ++ [askFix a (pickV bs q 6)] } ∨ m' = { m with gives := m.gives ++ [askFix a (pickV bs q 6)] }) → s'.norm [0, 2, 3, 7] = head156b bs (q + 2) wk m' (i + 1) → Ends (fin [CRes.cell 2 9 true] 1 (Y s')) Q) (s : St) (hs : Mid bs q wk m i a s) :
    Ends (fin [CRes.cell 2 9 true] 1 (X F (.code codeC :: .blk 3 :: .code (.region [⟨some 100, .mov (.tmp 7), none⟩, ⟨some 101, .bin .add (.tmp 100) (.const (.int .i64 1)), none⟩, ⟨some 7, .mov (.tmp 101), none⟩] [0, 2, 3, 7]) :: .back Y :: fs2) (.normal, s))) Q := by
  obtain ⟨s0, s2, s3, s7, s8, g0, g1, g2, g3, gx, nx0, base⟩ := hs
  obtain ⟨n, nx⟩ : ∃ n, s.next = n + 100 := ⟨s.next - 100, by omega⟩
  obtain ⟨a1, a2, a3⟩ := law89 bs q 6 hb h0 (by omega) (by omega)
  have a4 := a3 (by omega)
  obtain ⟨t1, t2⟩ := hat
  simp only [rdBox] at a1 g0
  have fin' : ∀ (a' : Ask), a' = askFix a (pickV bs q 6) → ∀ s', Mid bs (q + 1) wk m i a' s' → Ends (fin [CRes.cell 2 9 true] 1 (X F (.code codeEnd :: .blk 3 :: .code (.region [⟨some 100, .mov (.tmp 7), none⟩, ⟨some 101, .bin .add (.tmp 100) (.const (.int .i64 1)), none⟩, ⟨some 7, .mov (.tmp 101), none⟩] [0, 2, 3, 7]) :: .back Y :: fs2) (.normal, s'))) Q := by
    intro a' ha s' hs'
    refine draw_end bs (q + 1) wk m i a' hb (by omega) (by omega) hi hA hG (fun m' s2 hm' hn => ?_) s' hs'
    rw [show q + 1 + 1 = q + 2 by omega] at hn
    exact hY m' s2 (by rw [← ha]; exact hm') hn
  by_cases c1 : a.at_ < 0
  · have u1 : IntKind.i64.wrap (-(pickV bs q 6)) = -(pickV bs q 6) := i64w (by omega) (by omega)
    by_cases c2 : 0 < pickV bs q 6
    · have c3 : -(pickV bs q 6) < 0 := by omega
      simp [codeC, codeD, s0, s2, s3, s7, s8, g0, g1, g2, g3, nx, base, a1, c1, c2, c3, u1]
      refine fin' ⟨a.hold, a.copy, 0, 0⟩ (by simp [askFix, c1, c2, c3]) _ ⟨by simp, by simp, by simp, by simp, by simp, by simp [rdBox], by simp [g1], by simp [g2], by simp, fun k hk => by have := gx k hk; have e1 : ¬ (4 + k = 3) := (by omega); have e2 : ¬ (4 + k = 0) := (by omega); simpa [e1, e2] using this, by simp, by simp⟩
    · have c3 : ¬ (-(pickV bs q 6) < 0) := by omega
      have c4 : pickV bs q 6 = 0 := by omega
      simp [codeC, codeD, s0, s2, s3, s7, s8, g0, g1, g2, g3, nx, base, a1, c1, c2, c3, u1]
      refine fin' ⟨a.hold, a.copy, -(pickV bs q 6), 0⟩ (by simp [askFix, c1, c2, c3, c4]) _ ⟨by simp, by simp, by simp, by simp, by simp, by simp [rdBox], by simp [g1], by simp [g2], by simp, fun k hk => by have := gx k hk; have e1 : ¬ (4 + k = 3) := (by omega); have e2 : ¬ (4 + k = 0) := (by omega); simpa [e1, e2] using this, by simp, by simp⟩
  · have u1 : IntKind.i64.wrap (a.at_ - pickV bs q 6) = a.at_ - pickV bs q 6 := i64w (by omega) (by omega)
    by_cases c2 : a.at_ - pickV bs q 6 < 0
    · simp [codeC, codeD, s0, s2, s3, s7, s8, g0, g1, g2, g3, nx, base, a1, c1, c2, u1]
      refine fin' ⟨a.hold, a.copy, 0, a.at_⟩ (by simp [askFix, c1, c2]) _ ⟨by simp, by simp, by simp, by simp, by simp, by simp [rdBox], by simp [g1], by simp [g2], by simp, fun k hk => by have := gx k hk; have e1 : ¬ (4 + k = 3) := (by omega); have e2 : ¬ (4 + k = 0) := (by omega); simpa [e1, e2] using this, by simp, by simp⟩
    · simp [codeC, codeD, s0, s2, s3, s7, s8, g0, g1, g2, g3, nx, base, a1, c1, c2, u1]
      refine fin' ⟨a.hold, a.copy, a.at_ - pickV bs q 6, a.at_⟩ (by simp [askFix, c1, c2]) _ ⟨by simp, by simp, by simp, by simp, by simp, by simp [rdBox], by simp [g1], by simp [g2], by simp, fun k hk => by have := gx k hk; have e1 : ¬ (4 + k = 3) := (by omega); have e2 : ¬ (4 + k = 0) := (by omega); simpa [e1, e2] using this, by simp, by simp⟩

/-- The end of a mate's draw: its asks and what it gives back. -/
theorem draw_asks (bs : List Int) (p : Int) (wk : Bool) (m : Mate) (hb : Code bs) (h0 : 0 ≤ p) (hp : p ≤ 1000000000) (hm : m.tame) (hwk : wk = false → m.wants = []) (ha : m.asks = []) (hg : m.gives = []) (hr : m.runs.length ≤ 4) (hc : 0 ≤ m.clock ∧ m.clock ≤ 1000) (s : St) (hs : s.norm [0, 2, 3, 7] = head156b bs p wk m 0) :
    Ends (fin [CRes.cell 2 9 true] 1 (X F [.code (.loop [0, 2, 3, 7] c156b2), .blk 2, .code (.seq (.region [⟨some 179, .load (.tmp 3) 9 true .plain, none⟩, ⟨none, .store (.tmp 2) (.tmp 179) 9, none⟩] [2]) .ret)] (.normal, s)))
      (Drew bs p 24 fun x => ∃ m' : Mate, x = .agg (m'.c .own) ∧ m'.tame ∧ 0 ≤ m'.clock ∧ m'.clock ≤ 1000) := by
  refine loop_end (K := fin [CRes.cell 2 9 true] 1) (σ := Nat × Int × Mate) (fun z => head156b bs z.2.1 wk z.2.2 z.1)
    (fun z => z.1 ≤ 3 ∧ p ≤ z.2.1 ∧ z.2.1 ≤ p + 8 * z.1 ∧ z.2.2.tame ∧ (wk = false → z.2.2.wants = []) ∧ z.2.2.asks.length ≤ z.1 ∧ z.2.2.gives.length ≤ z.1 ∧ z.2.2.runs.length ≤ 4 ∧ (0 ≤ z.2.2.clock ∧ z.2.2.clock ≤ 1000))
    (fun z => 3 - z.1) (fun z Y hinv hY => ?_) (0, p, m) hs ⟨by omega, by simp, by simp, hm, hwk, by simp [ha], by simp [hg], hr, hc⟩ (by unfold big; simp)
  obtain ⟨i, q, m⟩ := z
  obtain ⟨h1, h2, h3, h4, h5, h6, h7, h8, h9⟩ := hinv
  clear hm hwk ha hg hr hc hs
  simp only at h1 h2 h3 h4 h5 h6 h7 h8 h9 hY ⊢
  by_cases hi : i < 3
  · have hiI : (i : Int) < 3 := by omega
    obtain ⟨a1, a2, a3⟩ := law89 bs q 4 hb (by omega) (by omega) (by omega)
    obtain ⟨b1, b2, b3⟩ := law89 bs (q + 1) 12 hb (by omega) (by omega) (by omega)
    rw [show q + 1 + 1 = q + 2 by omega] at b1
    have a4 := a3 (by omega)
    have b4 := b3 (by omega)
    obtain ⟨k, hk, hk4⟩ := toNat_cases (n := 4) a2 a4
    have d1 := law140 k (by omega)
    have d2 := cName_size (i := k) (by omega)
    have d3 : (⟨#[99]⟩ : T).size + (dec k).size ≤ 9223372036854775807 := by rw [app_size] at d2; omega
    generalize pickV bs (q + 1) 12 = y at b1 b2 b4
    have u1 : IntKind.i64.wrap (m.clock - y) = m.clock - y := i64w (by omega) (by omega)
    have hsel : i < [[AV.str ⟨#[105, 112]⟩], [.str ⟨#[118, 111, 108]⟩], [.str ⟨#[118, 111, 108, 50]⟩]].length := hi
    have hsel2 := selN3 ⟨#[105, 112]⟩ ⟨#[118, 111, 108]⟩ ⟨#[118, 111, 108, 50]⟩ hsel
    generalize hhold : [(⟨#[105, 112]⟩ : T), ⟨#[118, 111, 108]⟩, ⟨#[118, 111, 108, 50]⟩].getD i ⟨#[]⟩ = hold at hsel2
    have hhs : hold.size ≤ 1000 := by
      rw [← hhold]
      rcases i with _ | _ | _ | i
      · decide
      · decide
      · decide
      · omega
    simp only [rdBox] at a1 b1
    rw [hk] at a1
    have hruns : ∀ r ∈ m.runs, r.tame := h4.runs
    simp [head156b, rdBox, c156b2, hiI, hi, hsel2, a1, b1, d1, d3, u1, cellsB]
    refine loop_end (K := fin [CRes.cell 2 9 true] 1) (σ := Nat × Int × T) (fun z => head156c bs z.2.1 wk m i ⟨hold, z.2.2, 0, m.clock - y⟩ z.1)
      (fun z => z.1 ≤ m.runs.length ∧ q + 2 ≤ z.2.1 ∧ z.2.1 ≤ q + 2 + z.1 ∧ z.2.2.size ≤ 1000) (fun z => m.runs.length - z.1) (fun z Y2 hinv2 hY2 => ?_) (0, q + 2, ⟨#[99]⟩ ++ dec k) ?_ ⟨by simp, by simp, by simp, d2⟩ (by unfold big; simp only; omega)
    · obtain ⟨j, q2, cp⟩ := z
      obtain ⟨g1, g2, g3, g4⟩ := hinv2
      simp only at g1 g2 g3 g4 hY2 ⊢
      by_cases hj : j < m.runs.length
      · have hjI : (j : Int) < m.runs.length := by omega
        have hw : IntKind.i64.wrap ((j : Int) + 1) = (j : Int) + 1 := i64w (by omega) (by omega)
        obtain ⟨r, hrr⟩ : ∃ r, m.runs[j]? = some r := ⟨_, List.getElem?_eq_getElem hj⟩
        obtain ⟨_, hg⟩ := List.getElem?_eq_some_iff.1 hrr
        have hrt := hruns r (List.mem_of_getElem? hrr)
        obtain ⟨e1, e2, e3⟩ := law89 bs q2 4 hb (by omega) (by omega) (by omega)
        simp only [rdBox] at e1
        have hnorm : ∀ (q3 : Int) (cp3 : T) (s' : St), s'.slots 0 = .ptr 0 0 0 → s'.slots 2 = .ptr 1 0 0 → s'.slots 3 = .ptr 2 0 0 → s'.slots 7 = .int .i64 i → s'.slots 8 = .ptr 3 0 0 → s'.slots 9 = .int .i64 ((j : Int) + 1) → s'.heap 0 = some (rdBox bs q3) → s'.heap 1 = some (.box zeroCells) → s'.heap 2 = some (.box (cellsB 4 wk m)) →
            s'.heap 3 = some (.box (Ask.c ⟨hold, cp3, 0, m.clock - y⟩)) → (∀ k, k < 5 → s'.heap (4 + k) = (arrsB wk m)[k]?) → s'.base = 1 → s'.norm [0, 2, 3, 7, 8, 9] = head156c bs q3 wk m i ⟨hold, cp3, 0, m.clock - y⟩ (j + 1) := by
          intro q3 cp3 s' c0 c2 c3 c7 c8 c9 v0 v1 v2 v3 vx vb
          have gx4 := vx 0 (by omega)
          have gx5 := vx 1 (by omega)
          have gx6 := vx 2 (by omega)
          have gx7 := vx 3 (by omega)
          rcases hAA : m.asks with _ | ⟨x1, as⟩ <;> rcases hGG : m.gives with _ | ⟨y1, gs⟩ <;> cases wk <;>
          · simp [arrsB, hAA, hGG] at gx4 gx5 gx6 gx7
            simp [head156c, c0, c2, c3, c7, c8, c9, v0, v1, v2, v3, gx4, gx5, gx6, gx7, vb, rdBox, cellsB, zeroCells, arrsB, wn, an, hAA, hGG]
        have z0 : ¬ (4 + wn wk = 0) := by omega
        have z1 : ¬ (4 + wn wk = 1) := by omega
        have z2 : ¬ (4 + wn wk = 2) := by omega
        have z3 : ¬ (4 + wn wk = 3) := by omega
        have r5 : Ytfebkfeobdffjaa.hp (arrsB wk m) 4 (4 + wn wk) = some (.arr 11 (m.runs.map Run.c)) := by rw [hp_get]; cases wk <;> simp [arrsB, wn]
        by_cases k1 : sEq r.want.hold hold = true
        · by_cases k2 : 0 < pickV bs q2 4
          · simp [head156c, rdBox, c156b1, cellsB, hjI, hj, hg, r5, z0, z1, z2, z3, k1, k2, e1]
            refine hY2 (j + 1, q2 + 1, r.want.copy) _ ⟨by simp only; omega, by simp only; omega, by simp only; omega, hrt.want.copy⟩ (by simp only; omega) ?_
            exact hnorm (q2 + 1) r.want.copy _ (by simp) (by simp) (by simp) (by simp) (by simp) (by simp [hw]) (by simp [rdBox]) (by simp) (by simp [cellsB]) (by simp) (fun k' hk' => by have e1 : ¬ (4 + k' = 3) := (by omega); have e2 : ¬ (4 + k' = 0) := (by omega); have e3 : ¬ (4 + k' = 1) := (by omega); have e4 : ¬ (4 + k' = 2) := (by omega); simp [e1, e2, e3, e4, hp_get]) (by simp)
          · simp [head156c, rdBox, c156b1, cellsB, hjI, hj, hg, r5, z0, z1, z2, z3, k1, k2, e1]
            refine hY2 (j + 1, q2 + 1, cp) _ ⟨by simp only; omega, by simp only; omega, by simp only; omega, g4⟩ (by simp only; omega) ?_
            exact hnorm (q2 + 1) cp _ (by simp) (by simp) (by simp) (by simp) (by simp) (by simp [hw]) (by simp [rdBox]) (by simp) (by simp [cellsB]) (by simp) (fun k' hk' => by have e1 : ¬ (4 + k' = 3) := (by omega); have e2 : ¬ (4 + k' = 0) := (by omega); have e3 : ¬ (4 + k' = 1) := (by omega); have e4 : ¬ (4 + k' = 2) := (by omega); simp [e1, e2, e3, e4, hp_get]) (by simp)
        · simp [head156c, rdBox, c156b1, cellsB, hjI, hj, hg, r5, z0, z1, z2, z3, k1]
          refine hY2 (j + 1, q2, cp) _ ⟨by simp only; omega, by simp only; omega, by simp only; omega, g4⟩ (by simp only; omega) ?_
          exact hnorm q2 cp _ (by simp) (by simp) (by simp) (by simp) (by simp) (by simp [hw]) (by simp [rdBox]) (by simp) (by simp [cellsB]) (by simp) (fun k' hk' => by have e1 : ¬ (4 + k' = 3) := (by omega); have e2 : ¬ (4 + k' = 0) := (by omega); have e3 : ¬ (4 + k' = 1) := (by omega); have e4 : ¬ (4 + k' = 2) := (by omega); simp [e1, e2, e3, e4, hp_get]) (by simp)
      · have hjI : ¬ (j : Int) < m.runs.length := by omega
        have z0 : ¬ (4 + wn wk = 0) := by omega
        have z1 : ¬ (4 + wn wk = 1) := by omega
        have z2 : ¬ (4 + wn wk = 2) := by omega
        have z3 : ¬ (4 + wn wk = 3) := by omega
        have r5 : Ytfebkfeobdffjaa.hp (arrsB wk m) 4 (4 + wn wk) = some (.arr 11 (m.runs.map Run.c)) := by rw [hp_get]; cases wk <;> simp [arrsB, wn]
        show Ends (fin [CRes.cell 2 9 true] 1 (X F (.code c156b1 :: .back Y2 :: .blk 4 :: .code codeC :: _) (.normal, _))) _
        simp [head156c, rdBox, c156b1, cellsB, hjI, r5, z0, z1, z2, z3]
        refine draw_rest bs q2 wk m i ⟨hold, cp, 0, m.clock - y⟩ hb ?_ ?_ hi ?_ ?_ ?_ (fun m' s' hm' hn => ?_) _ ?_
        · omega
        · omega
        · omega
        · omega
        · exact ⟨by simp only; omega, by simp only; omega⟩
        · obtain ⟨e1, e2, e3⟩ := law89 bs q2 6 hb (by omega) (by omega) (by omega)
          have e4 := e3 (by omega)
          have hfix : (askFix ⟨hold, cp, 0, m.clock - y⟩ (pickV bs q2 6)).tame := by
            unfold askFix
            refine ⟨hhs, g4, ?_, ?_⟩
            · simp only
              split <;> split <;> exact ⟨by omega, by omega⟩
            · simp only
              split <;> exact ⟨by omega, by omega⟩
          obtain ⟨r1, r2, r3, r4, r5', r6, r7, r8, r9, r10, r11⟩ := h4
          refine hY (i + 1, q2 + 2, m') s' ?_ (by simp only; omega) hn
          rcases hm' with rfl | rfl | rfl
          · exact ⟨by simp only; omega, by simp only; omega, by simp only; omega, ⟨r1, r2, r3, r4, r5', r6, r7, r8, r9, r10, r11⟩, h5, by simp only; omega, by simp only; omega, h8, h9⟩
          · exact ⟨by simp only; omega, by simp only; omega, by simp only; omega, ⟨r1, r2, r3, r4, r5', r6, r7, by simp; omega, mem_snoc r9 hfix, r10, r11⟩, h5, by simp; omega, by simp only; omega, h8, h9⟩
          · exact ⟨by simp only; omega, by simp only; omega, by simp only; omega, ⟨r1, r2, r3, r4, r5', r6, r7, r8, r9, by simp; omega, mem_snoc r11 hfix⟩, h5, by simp only; omega, by simp; omega, h8, h9⟩
        · exact ⟨by simp, by simp, by simp, by simp, by simp, by simp [rdBox], by simp, by simp [cellsB], by simp, fun k' hk' => by have e1 : ¬ (4 + k' = 3) := (by omega); have e2 : ¬ (4 + k' = 0) := (by omega); have e3 : ¬ (4 + k' = 1) := (by omega); have e4 : ¬ (4 + k' = 2) := (by omega); simp [e1, e2, e3, e4, hp_get], by simp, by simp⟩
    · rcases hAA : m.asks with _ | ⟨x1, as⟩ <;> rcases hGG : m.gives with _ | ⟨y1, gs⟩ <;> cases wk <;> simp [head156c, rdBox, cellsB, zeroCells, arrsB, wn, an, hAA, hGG]
  · have hiI : ¬ (i : Int) < 3 := by omega
    have hQ : Drew bs p 24 (fun x => ∃ m' : Mate, x = .agg (m'.c .own) ∧ m'.tame ∧ 0 ≤ m'.clock ∧ m'.clock ≤ 1000) (.agg (m.c .own), [some (rdBox bs q)]) := ⟨_, q, rfl, by omega, by omega, m, rfl, h4, h9⟩
    obtain ⟨m1, m2, m3, m4, m5, ws, rs, as, gs⟩ := m
    simp only [rdBox, Mate.c] at hQ
    simp only at h5
    cases wk
    · obtain rfl := h5 rfl
      rcases as with _ | ⟨a1, as⟩ <;> rcases gs with _ | ⟨g1, gs⟩ <;> simp [head156b, rdBox, c156b2, hiI, zeroCells, cellsB, arrsB, wn, an] <;> simpa using hQ
    · rcases as with _ | ⟨a1, as⟩ <;> rcases gs with _ | ⟨g1, gs⟩ <;> simp [head156b, rdBox, c156b2, hiI, zeroCells, cellsB, arrsB, wn, an] <;> simpa using hQ
end Go.Proofs.Ytfebkfeobdffjaa
