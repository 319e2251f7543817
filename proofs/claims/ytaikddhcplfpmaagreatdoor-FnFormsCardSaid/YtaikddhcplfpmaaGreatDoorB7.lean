/- Draws: wants and runs, one in two spoilt. · FnExactMateRead: the plain law. · FnForms: the plain law. · The library's functions: that a program's own do as YtaikddhcplfpmaaGreatDoorLib says where their contracts hold. -/
import Derived.Test.YtaikddhcplfpmaaGreatDoorB6
import Derived.Test.YtaikddhcplfpmaaGreatDoorB5
import Derived.Test.YtaikddhcplfpmaaGreatDoorB4
import Derived.Test.YtaikddhcplfpmaaGreatDoorB1
import Derived.Lib.SplitLaws
namespace Go.Proofs.YtaikddhcplfpmaaGreatDoor
open Go
set_option linter.unusedSimpArgs false
set_option maxRecDepth 100000

def head264 (cs : List Int) (b : Int) (z : Nat × List Want) : St := hd [(3, .ptr 0 0 0), (4, .ref 1), (6, .int .i64 z.1)] [rdBox cs (b + z.1), .arr 7 (z.2.map Want.c)] 0

theorem law264 (bs : List Int) (hl : bs.length ≤ 1000000000) (h : ∀ b ∈ bs, 0 ≤ b ∧ b ≤ 255) : Ends (F 264 [.sl .imm 1 (bs.map rowB)] []) (fun r => ∃ ws : List Want, r = (.sl .own 7 (ws.map Want.c), []) ∧ ws.length ≤ 12) := by
  refine F_ends fn264 rfl ?_
  have hb := Code.take h
  have w0 := law91 bs hl
  generalize bs.take 2000 = cs at hb w0
  obtain ⟨_, c1, x1, p, rfl, c2, c3, ws, rfl, hw, ht⟩ := law145 cs 0 hb (by omega) (by omega)
  obtain ⟨a1, a2, a3⟩ := law89 cs p 2 hb (by omega) (by omega) (by omega)
  obtain ⟨b1, b2, b3⟩ := law89 cs (p + 1) ws.length hb (by omega) (by omega) (by omega)
  obtain ⟨d1, d2, d3⟩ := law89 cs (p + 2) 4 hb (by omega) (by omega) (by omega)
  rw [show p + 1 + 1 = p + 2 by omega] at b1
  rw [show p + 2 + 1 = p + 3 by omega] at d1
  simp only [rdBox] at c1 a1 b1 d1
  have hQ : ∀ v : List Want, v.length ≤ 12 → ∃ ws : List Want, (((.sl .own 7 (v.map Want.c)), []) : AV × List (Option AO)) = (.sl .own 7 (ws.map Want.c), []) ∧ ws.length ≤ 12 := fun v hv => ⟨v, rfl, hv⟩
  by_cases k : ws.length = 0
  · obtain rfl := List.eq_nil_of_length_eq_zero k
    simp [c264, w0, c1]
  have kI : ¬ (ws.length : Int) = 0 := by omega
  by_cases k0 : pickV cs p 2 = 0
  · simp [c264, w0, c1, k, kI, a1, k0]
    exact ⟨ws, rfl, by omega⟩
  have b4 := b3 (by omega)
  obtain ⟨j, hj, hj2⟩ := toNat_cases (i := pickV cs (p + 1) ws.length) (n := ws.length) b2 (by omega)
  obtain ⟨x, hx⟩ : ∃ x, ws[j]? = some x := ⟨_, List.getElem?_eq_getElem hj2⟩
  obtain ⟨_, hg⟩ := List.getElem?_eq_some_iff.1 hx
  rw [hj] at b1
  have pl : ∀ w : Want, rowsPlain [[AV.str w.copy, .int .i64 w.version, .str w.hold, .int .i64 w.pull, .int .i64 w.start, .int .i64 w.dies, .int .i64 w.grace]] = true := fun _ => rfl
  by_cases k1 : pickV cs (p + 2) 4 = 0
  · have l1 : (ws.length + 1) * 72 ≤ 140737488355328 := by omega
    have l2 : ws.length + 1 ≤ 140737488355328 := by omega
    have q := hQ (ws ++ [x]) (by simp; omega)
    simp [c264, w0, c1, k, kI, a1, k0, b1, hj2, hg, d1, k1, takeRows, pl, l1, l2]
    simpa using q
  by_cases k2 : pickV cs (p + 2) 4 = 1
  · simp [c264, w0, c1, k, kI, a1, k0, b1, d1, k1, k2]
    refine loop_end (K := fin [CRes.tmp 2] 0) (σ := Nat × List Want) (fun z => head264 cs (p + 3) z) (fun z => z.1 ≤ z.2.length ∧ z.2.length ≤ 12) (fun z => 12 - z.2.length) (fun z Y hinv hY => ?_) (0, ws) ?_ ⟨Nat.zero_le _, by simp only; omega⟩ (by unfold big; simp only; omega)
    · obtain ⟨i, v⟩ := z
      obtain ⟨g1, g2⟩ := hinv
      simp only at g1 g2 hY ⊢
      obtain ⟨e1, e2, e3⟩ := law89 cs (p + 3 + i) 2 hb (by omega) (by omega) (by omega)
      have e4 := e3 (by omega)
      have u1 : IntKind.i64.wrap (10 + pickV cs (p + 3 + i) 2) = 10 + pickV cs (p + 3 + i) 2 := i64w (by omega) (by omega)
      simp only [rdBox] at e1
      by_cases hi : (v.length : Int) < 10 + pickV cs (p + 3 + i) 2
      · have hw : IntKind.i64.wrap ((i : Int) + 1) = (i : Int) + 1 := i64w (by omega) (by omega)
        obtain ⟨y, hw2⟩ : ∃ y, IntKind.u8.wrap (IntKind.i64.wrap (97 + (i : Int))) = y := ⟨_, rfl⟩
        have l1 : (v.length + 1) * 72 ≤ 140737488355328 := by omega
        have l2 : v.length + 1 ≤ 140737488355328 := by omega
        have l3 : (⟨#[100]⟩ : T).size + (⟨#[UInt8.ofNat y.toNat]⟩ : T).size ≤ 9223372036854775807 := by
          have : (⟨#[100]⟩ : T).size = 1 := rfl
          have : (⟨#[UInt8.ofNat y.toNat]⟩ : T).size = 1 := rfl
          omega
        have e5 : p + 3 + (i : Int) + 1 = p + 3 + ((i : Int) + 1) := by omega
        simp [head264, rdBox, c264b0, e1, u1, hi, hw2, toBytes, l1, l2, l3, takeRows, rowsPlain]
        refine hY (i + 1, v ++ [⟨⟨#[100]⟩ ++ ⟨#[UInt8.ofNat y.toNat]⟩, 1, ⟨#[]⟩, 0, 0, 0, 0⟩]) _ ⟨by simp; omega, by simp; omega⟩ (by simp; omega) ?_
        simp [head264, rdBox, hw, e5]
      · simp [head264, rdBox, c264b0, e1, u1, hi]
        exact ⟨v, rfl, by omega⟩
    · simp [head264, rdBox]
  · obtain ⟨x', p', f1, f2, f3, f4⟩ := law144 cs (p + 3) x hb (by omega) (by omega) (ht x (List.mem_of_getElem? hx))
    simp only [rdBox, Want.c] at f1
    have q := hQ (ws.set j x') (by simp; omega)
    simp [c264, w0, c1, k, kI, a1, k0, b1, hj2, hg, d1, k1, k2, f1]
    simpa [List.map_set] using q

def head263 (cs : List Int) (b c : Int) (z : Nat × List Run) : St := hd [(4, .ptr 0 0 0), (5, .int .i64 c), (6, .ref 1), (8, .int .i64 z.1)] [rdBox cs (b + z.1), .arr 11 (z.2.map Run.c)] 0

theorem law263 (bs : List Int) (hl : bs.length ≤ 1000000000) (h : ∀ b ∈ bs, 0 ≤ b ∧ b ≤ 255) : Ends (F 263 [.sl .imm 1 (bs.map rowB)] []) (fun r => ∃ (rs : List Run) (c : Int), r = (.tup [.sl .own 11 (rs.map Run.c), .int .i64 c], []) ∧ rs.length ≤ 22) := by
  refine F_ends fn263 rfl ?_
  have hb := Code.take h
  have w0 := law91 bs hl
  generalize bs.take 2000 = cs at hb w0
  obtain ⟨m1, m2, m3⟩ := law89 cs 0 40 hb (by omega) (by omega) (by omega)
  obtain ⟨n1, n2, n3⟩ := law89 cs 1 2 hb (by omega) (by omega) (by omega)
  have m4 := m3 (by omega)
  generalize hck : pickV cs 0 40 = c at *
  obtain ⟨_, c1, x1, p, rfl, c2, c3, ws, rfl, hw, ht⟩ := law162 cs 2 c (pickV cs 1 2 == 0) hb (by omega) (by omega) ⟨m2, by omega⟩
  obtain ⟨a1, a2, a3⟩ := law89 cs p 2 hb (by omega) (by omega) (by omega)
  obtain ⟨b1, b2, b3⟩ := law89 cs (p + 1) ws.length hb (by omega) (by omega) (by omega)
  obtain ⟨d1, d2, d3⟩ := law89 cs (p + 2) 5 hb (by omega) (by omega) (by omega)
  rw [show p + 1 + 1 = p + 2 by omega] at b1
  rw [show p + 2 + 1 = p + 3 by omega] at d1
  rw [show (0 : Int) + 1 = 1 from rfl] at m1
  rw [show (1 : Int) + 1 = 2 from rfl] at n1
  simp only [rdBox] at m1 n1 c1 a1 b1 d1
  by_cases k : ws.length = 0
  · obtain rfl := List.eq_nil_of_length_eq_zero k
    simp [c263, w0, m1, n1, c1]
  have kI : ¬ (ws.length : Int) = 0 := by omega
  by_cases k0 : pickV cs p 2 = 0
  · simp [c263, w0, m1, n1, c1, k, kI, a1, k0]
    exact ⟨ws, rfl, by omega⟩
  have b4 := b3 (by omega)
  obtain ⟨j, hj, hj2⟩ := toNat_cases (i := pickV cs (p + 1) ws.length) (n := ws.length) b2 (by omega)
  obtain ⟨x, hx⟩ : ∃ x, ws[j]? = some x := ⟨_, List.getElem?_eq_getElem hj2⟩
  obtain ⟨_, hg⟩ := List.getElem?_eq_some_iff.1 hx
  rw [hj] at b1
  by_cases k1 : pickV cs (p + 2) 5 = 0
  · have l1 : (ws.length + 1) * 104 ≤ 140737488355328 := by omega
    have l2 : ws.length + 1 ≤ 140737488355328 := by omega
    simp [c263, w0, m1, n1, c1, k, kI, a1, k0, b1, hj2, hg, d1, k1, takeRows, rowsPlain, l1, l2]
    exact ⟨ws ++ [x], by simp [Run.c, Want.c], by simp; omega⟩
  by_cases k2 : pickV cs (p + 2) 5 = 1
  · simp [c263, w0, m1, n1, c1, k, kI, a1, k0, b1, d1, k1, k2]
    refine loop_end (K := fin [CRes.tmp 2, CRes.tmp 3] 0) (σ := Nat × List Run) (fun z => head263 cs (p + 3) c z) (fun z => z.1 ≤ z.2.length ∧ z.2.length ≤ 22) (fun z => 22 - z.2.length) (fun z Y hinv hY => ?_) (0, ws) ?_ ⟨Nat.zero_le _, by simp only; omega⟩ (by unfold big; simp only; omega)
    · obtain ⟨i, v⟩ := z
      obtain ⟨g1, g2⟩ := hinv
      simp only at g1 g2 hY ⊢
      obtain ⟨e1, e2, e3⟩ := law89 cs (p + 3 + i) 2 hb (by omega) (by omega) (by omega)
      have e4 := e3 (by omega)
      have u1 : IntKind.i64.wrap (20 + pickV cs (p + 3 + i) 2) = 20 + pickV cs (p + 3 + i) 2 := i64w (by omega) (by omega)
      simp only [rdBox] at e1
      by_cases hi : (v.length : Int) < 20 + pickV cs (p + 3 + i) 2
      · have hw : IntKind.i64.wrap ((i : Int) + 1) = (i : Int) + 1 := i64w (by omega) (by omega)
        obtain ⟨y, hw2⟩ : ∃ y, IntKind.u8.wrap (IntKind.i64.wrap (97 + (i : Int))) = y := ⟨_, rfl⟩
        have l1 : (v.length + 1) * 104 ≤ 140737488355328 := by omega
        have l2 : v.length + 1 ≤ 140737488355328 := by omega
        have l3 : (⟨#[100]⟩ : T).size + (⟨#[UInt8.ofNat y.toNat]⟩ : T).size ≤ 9223372036854775807 := by
          have : (⟨#[100]⟩ : T).size = 1 := rfl
          have : (⟨#[UInt8.ofNat y.toNat]⟩ : T).size = 1 := rfl
          omega
        have e5 : p + 3 + (i : Int) + 1 = p + 3 + ((i : Int) + 1) := by omega
        simp [head263, rdBox, c263b0, e1, u1, hi, hw2, toBytes, l1, l2, l3, takeRows, rowsPlain]
        refine hY (i + 1, v ++ [⟨⟨⟨#[100]⟩ ++ ⟨#[UInt8.ofNat y.toNat]⟩, 1, ⟨#[]⟩, 0, 0, 0, 0⟩, 1, 0, 0, 0⟩]) _ ⟨by simp; omega, by simp; omega⟩ (by simp; omega) ?_
        simp [head263, rdBox, hw, e5]
      · simp [head263, rdBox, c263b0, e1, u1, hi]
        exact ⟨v, rfl, by omega⟩
    · simp [head263, rdBox]
  · obtain ⟨x', p', f1, f2, f3, f4⟩ := law88 cs (p + 3) x hb (by omega) (by omega) (ht x (List.mem_of_getElem? hx))
    simp only [rdBox, Run.c, Want.c] at f1
    simp [c263, w0, m1, n1, c1, k, kI, a1, k0, b1, hj2, hg, d1, k1, k2, f1]
    exact ⟨ws.set j x', by simp [List.map_set], by simp; omega⟩
end Go.Proofs.YtaikddhcplfpmaaGreatDoor

namespace Go.Proofs.YtaikddhcplfpmaaGreatDoor
open Go
set_option linter.unusedSimpArgs false
set_option maxRecDepth 100000

theorem readT_small {s : T} (hs : s.size ≤ 1048576) : (readT s).1.small := by
  have h0 : ∀ p : Parcel, p.wants = [] → p.small := fun p h => ⟨by rw [h]; exact Nat.zero_le _⟩
  unfold readT
  split
  · exact h0 _ rfl
  · unfold readS readWords
    split
    · refine ⟨?_⟩
      have := cutT_len s 10
      simp only [readLines, List.length_map, List.length_dropLast, List.length_tail]
      omega
    · split
      · exact h0 _ rfl
      · split
        · exact h0 _ rfl
        · split <;> exact h0 _ rfl

end Go.Proofs.YtaikddhcplfpmaaGreatDoor

namespace Go.Proofs.YtaikddhcplfpmaaGreatDoor
open Go
set_option linter.unusedSimpArgs false
set_option maxRecDepth 100000

theorem readT_true {s : T} (h : (readT s).2 = true) : parcelForm (readT s).1 = s := by
  unfold readT at h ⊢
  split at h
  · cases h
  · rename_i hn
    rw [if_neg hn]
    simp only [Bool.or_eq_true, Bool.not_eq_true', not_or, Bool.not_eq_false] at hn
    exact (sEq_iff _ _).1 hn.2
theorem readT_nil : readT ⟨#[]⟩ = (noParcel, false) := by
  unfold readT
  rw [(sEq_iff _ _).2 rfl]
  rfl

theorem forms_law (bs : List Int) (h : ListWf Byte bs) : F 262 [.sl .imm 1 (bs.map rowB)] [] = some (.bool true, []) := by
  refine F_run fn262 rfl ?_
  by_cases hb : 1048576 < bs.length
  · have hbI : (1048576 : Int) < bs.length := by omega
    simp [c262, hbI]
  have hbI : ¬ (1048576 : Int) < bs.length := by omega
  have hB : ∀ b ∈ bs, 0 ≤ b ∧ b ≤ 255 := fun b hb => h.all b hb
  obtain ⟨p, a1, hp⟩ := law266 bs (by omega) hB
  obtain ⟨u, a2, hu⟩ := law265 bs (by omega) hB
  obtain ⟨_, a3, ws, rfl, hw⟩ := law264 bs (by omega) hB
  obtain ⟨_, a4, rs, c, rfl, hr⟩ := law263 bs (by omega) hB
  have hfs := parcelForm_size p
  have b1 := law218 p hp
  have b2 := law236 p hp
  have b3 := law207 (parcelForm p) (by omega)
  have b4 := law207 u (by omega)
  have b5 := law235 u (by omega)
  rw [readI_readT] at b3 b4
  have hv := readT_small (s := u) (by omega)
  have b6 := law218 (readT u).1 hv
  have b7 := law143 p hp
  have b8 := law6 ws (by unfold big; omega)
  have b9 := law7 ws (by unfold big; omega)
  have b10 := law11 rs c (by unfold big; omega)
  have b11 := law12 rs c (by unfold big; omega)
  have ht := @readT_true u
  generalize (readT u).1 = v at *
  generalize (readT u).2 = f at *
  simp only [Parcel.c] at a1 b1 b2 b3 b4 b5 b6 b7
  by_cases hn : parcelForm p = ⟨#[]⟩
  · rw [hn, readT_nil] at b3
    rw [hn] at b1 b2
    simp only [noParcel, List.map_nil] at b3
    cases f
    · simp [c262, hbI, a1, a2, a3, a4, b1, b2, b3, b4, b5, b8, b9, b10, b11]
    · have hf := ht rfl
      simp [c262, hbI, a1, a2, a3, a4, b1, b2, b3, b4, b5, b6, b8, b9, b10, b11, hf]
  · rw [readT_form hn] at b3
    have hn2 := sEq_ne hn
    cases f
    · simp [c262, hbI, a1, a2, a3, a4, b1, b2, b3, b4, b5, b7, b8, b9, b10, b11, hn2]
    · have hf := ht rfl
      simp [c262, hbI, a1, a2, a3, a4, b1, b2, b3, b4, b5, b6, b7, b8, b9, b10, b11, hf, hn2]
end Go.Proofs.YtaikddhcplfpmaaGreatDoor

namespace Go.Proofs.YtaikddhcplfpmaaGreatDoor
open Go Go.RowKit
set_option linter.unusedSimpArgs false

/-- What is frozen lies in this world. -/
def FzIn (fz : List (Nat × Obj)) (w : World) : Prop := ∀ p ∈ fz, p.1 < w.heap.size ∧ w.heap[p.1]? = some p.2

/-- A call that goes in, and comes back as this says. -/
def Ret (P : Program) (f : FuncId) (vs : Array Value) (w : World) (R : Value → World → Prop) : Prop :=
  (callFunc f vs).run P w = .ok (.enter f vs) w ∧ Calls P f vs w fun e w' => ∃ v, e = .returned v ∧ Below w.heap.size w w' ∧ R v w'

theorem Ret.callable {P : Program} {f : FuncId} {vs : Array Value} {w : World} {R R' : Value → World → Prop} (h : Ret P f vs w R) (hr : ∀ v w', Below w.heap.size w w' → R v w' → R' v w') : Callable P f vs w R' := by
  intro o a next Q hnext
  rw [h.1, Oper.upon_enter]
  refine h.2.mono fun e w' he => ?_
  obtain ⟨v, rfl, hb, hR⟩ := he
  exact hnext v w' (hr v w' hb hR)

structure PrimsOk (P : Program) (num : Nat → Option FuncId) (fz : List (Nat × Obj)) : Prop where
  sfx : ∀ f, num 222 = some f → ∀ (s p : ByteArray) (w : World), FzIn fz w → s.size ≤ 9223372036854775807 → Ret P f #[.string s, .string p] w fun v _ => v = .bool (Lib.hasSuffix s.data.toList p.data.toList)
  spl : ∀ f, num 220 = some f → ∀ (s sep : ByteArray) (w : World), FzIn fz w → s.size < 4294967281 → 1 ≤ sep.size → Ret P f #[.string s, .string sep] w fun v w' => v = .slice (some ⟨w.heap.size, 0, none⟩) (splitT s sep).length (splitT s sep).length ∧ ∃ t, w'.heap[w.heap.size]? = some (.cells ((splitT s sep).map Value.string).toArray t (0, 0))
  joi : ∀ f, num 230 = some f → ∀ (a : Option Addr) (c : Nat) (xs : List ByteArray) (sep : ByteArray) (w : World), FzIn fz w → (xs = [] ∨ ∃ b o, a = some ⟨b, o, none⟩ ∧ b < w.heap.size ∧ xs.length ≤ c ∧ ∀ (j : Nat) x, xs[j]? = some x → w.cell? ⟨b, o + j, none⟩ = some (.string x)) →
    xs.length ≤ 140737488355328 → (joinT xs sep).size ≤ 140737488355328 → Ret P f #[.slice a xs.length c, .string sep] w fun v _ => v = .string (joinT xs sep)
  ito : ∀ f, num 231 = some f → ∀ (n : Int) (w : World), FzIn fz w → -9223372036854775808 ≤ n → n ≤ 9223372036854775807 → Ret P f #[.int .i64 n] w fun v _ => v = .string (itoaT n)
  ato : ∀ f, num 221 = some f → ∀ (s : ByteArray) (w : World), FzIn fz w → s.size ≤ 281474976710656 → Ret P f #[.string s] w fun v _ => v = .int .i64 (numT s)

theorem Mem.fzIn {cx : Cx} {h : Nat → Option AO} {ep : Nat} {g : Gh} {w : World} (m : Mem cx h ep g w) : FzIn cx.fz w := fun _ hp => ⟨(m.fz_now hp).1, (m.fz_now hp).2.1⟩

/-- Behind a call that gives back one plain value. -/
theorem post_plain {cx : Cx} {h : Nat → Option AO} {g : Gh} {w w' : World} (m : Mem cx h 0 g w) (hw : cx.w0 = w) (h0 : cx.base = 0) (hb : Below w.heap.size w w') {v : Value} {r : AV} (hr : Cl w' g.I v r (fun _ => False)) (ht : r.isTup = false) :
    ∃ I N S fo, Post cx w' v r [] I N S fo := by
  refine ⟨g.I, g.N, fun _ => False, fun _ _ => False, ⟨?_, h0.symm, m.I_up, m.I_new, m.I_N, m.N_up, m.N_new, fun b h => Nat.lt_of_lt_of_le (m.N_lt b h) hb.size, .one _ _ _ (.one _ _ _ hr (fun _ h => h.elim)) ht, fun k o h => by simp at h, fun _ h => h.elim, fun _ _ _ h => h.elim, fun _ _ _ h => h.elim, fun _ _ _ _ _ h => h.elim⟩⟩
  rw [hw]
  exact ⟨hb.os, hb.tape, hb.output, hb.size, fun b h1 _ => hb.block b h1⟩

/-- Behind a call that gives back a new row of texts. -/
theorem post_texts {cx : Cx} {h : Nat → Option AO} {g : Gh} {w w' : World} (m : Mem cx h 0 g w) (hw : cx.w0 = w) (h0 : cx.base = 0) (hb : Below w.heap.size w w') {xs : List ByteArray} {t : TypeId} (hmax : xs.length ≤ maxLen)
    (hh : w'.heap[w.heap.size]? = some (.cells (xs.map Value.string).toArray t (0, 0))) :
    ∃ I N S fo, Post cx w' (.slice (some ⟨w.heap.size, 0, none⟩) xs.length xs.length) (.sl .own 1 (xs.map fun x => [.str x])) [] I N S fo := by
  have hlt := (Array.getElem?_eq_some_iff.1 hh).1
  have hca : ∀ i j c, cellAt (xs.map fun x => [AV.str x]) i j = some c → ∃ x, xs[i]? = some x ∧ j = 0 ∧ c = .str x := fun i j c hc => by
    obtain ⟨row, h1, h2⟩ := cellAt_some.1 hc
    rw [List.getElem?_map] at h1
    cases hi : xs[i]? with
    | none => rw [hi] at h1; cases h1
    | some x =>
      rw [hi] at h1
      simp only [Option.map_some, Option.some.injEq] at h1
      subst h1
      cases j with
      | zero => exact ⟨x, rfl, rfl, by simpa using h2.symm⟩
      | succ j => simp at h2
  refine ⟨g.I, fun b => g.N b ∨ b = w.heap.size, fun b => b = w.heap.size, fun _ _ => False, ⟨?_, h0.symm, m.I_up, m.I_new, fun b h => .inl (m.I_N b h), fun b h => .inl (m.N_up b h), fun b h => ?_, fun b h => ?_, .one _ _ _ (.one _ _ _ ?_ (fun x h => .inr h)) rfl, fun k o h => by simp at h, fun x h => ?_, fun _ _ _ h => h.elim, fun _ _ _ _ h => h, fun _ _ _ _ _ h => h.elim⟩⟩
  · rw [hw]
    exact ⟨hb.os, hb.tape, hb.output, hb.size, fun b h1 _ => hb.block b h1⟩
  · rcases h with h | h
    · exact m.N_new b h
    · exact .inr (by rw [hw, h]; exact Nat.le_refl _)
  · rcases h with h | h
    · exact Nat.lt_of_lt_of_le (m.N_lt b h) hb.size
    · rw [h]; exact hlt
  · have e : xs.length = (xs.map fun x => [AV.str x]).length := by simp
    rw [e]
    have e2 : (xs.map fun x => [AV.str x]).length = xs.length := by simp
    refine .own 1 _ w.heap.size _ (xs.map Value.string).toArray t (fun i _ => (xs[i]?.map Value.string).getD undef) (fun _ _ _ => False) _ hh (by simp) (by rw [e2]; exact hmax) (by simp) (fun row hr => ?_) (fun i j c hc => ?_) (fun i j c hc => ?_) (fun _ _ _ _ _ _ _ _ _ h => h.elim) (fun _ _ _ _ h => h) (fun x => ?_)
    · obtain ⟨x, _, rfl⟩ := List.mem_map.1 hr; rfl
    · obtain ⟨x, h1, rfl, rfl⟩ := hca i j c hc
      simp [h1]
    · obtain ⟨x, h1, rfl, rfl⟩ := hca i j c hc
      simp only [h1, Option.map_some, Option.getD_some]
      exact .str _ _ (fun _ h => h)
    · constructor
      · exact fun h => .inl h
      · rintro (h | ⟨_, _, _, _, h⟩)
        · exact h
        · exact h.elim
  · subst h
    refine ⟨.inr (by rw [hw]; exact Nat.le_refl _), fun hI => ?_⟩
    have := m.I_lt _ hI
    omega

theorem textsOf_cells : ∀ {rows : List (List AV)} {xs : List ByteArray}, textsOf rows = some xs → xs.length = rows.length ∧ ∀ (j : Nat) x, xs[j]? = some x → cellAt rows j 0 = some (.str x)
  | [], xs, h => by
    simp only [textsOf, Option.some.injEq] at h
    subst h
    exact ⟨rfl, fun j x hx => by simp at hx⟩
  | [] :: _, xs, h => by simp [textsOf] at h
  | (c :: d :: e) :: r, xs, h => by
    cases c <;> simp [textsOf] at h
  | [c] :: r, xs, h => by
    cases c <;> try (simp [textsOf] at h; done)
    rename_i s
    simp only [textsOf] at h
    cases hr : textsOf r with
    | none => rw [hr] at h; cases h
    | some ys =>
      rw [hr] at h
      simp only [Option.some.injEq] at h
      subst h
      obtain ⟨h1, h2⟩ := textsOf_cells hr
      refine ⟨by simp [h1], fun j x hx => ?_⟩
      cases j with
      | zero =>
        simp only [List.getElem?_cons_zero, Option.some.injEq] at hx
        subst hx
        exact cellAt_some.2 ⟨_, rfl, rfl⟩
      | succ j =>
        obtain ⟨row, h3, h4⟩ := cellAt_some.1 (h2 j x (by simpa using hx))
        exact cellAt_some.2 ⟨row, by simpa using h3, h4⟩

theorem prims_contract {P : Program} {num : Nat → Option FuncId} {fz : List (Nat × Obj)} (hp : PrimsOk P num fz) : ∀ k f args objs r outs, num k = some f → prim k args objs = some (r, outs) → Contract P num fz f args objs r outs := by
  intro k f args objs r outs hn h
  cases objs with
  | cons _ _ => cases h
  | nil =>
  replace h : primGo k args = some (r, outs) := h
  intro cx g w vs hP hnum hfz hw0 hbase hh0 hv0 hu m hsz hrel
  subst hP; subst hnum; subst hfz
  have hfi := m.fzIn
  have hbase0 : cx.base = 0 := hbase
  have one : ∀ (c : AV), args = [c] → ∃ v, vs = #[v] ∧ SRel cx.num w cx.R g (startHeap [] 0) 0 v c := fun c hc => by
    subst hc
    have : vs.size = 1 := hsz
    obtain ⟨v, rfl⟩ : ∃ v, vs = #[v] := ⟨vs[0], by apply Array.ext' ; match vs, this with | ⟨[x]⟩, _ => rfl⟩
    exact ⟨v, rfl, hrel 0 v c rfl rfl⟩
  have two : ∀ (c d : AV), args = [c, d] → ∃ v u, vs = #[v, u] ∧ SRel cx.num w cx.R g (startHeap [] 0) 0 v c ∧ SRel cx.num w cx.R g (startHeap [] 0) 0 u d := fun c d hc => by
    subst hc
    have : vs.size = 2 := hsz
    obtain ⟨v, u, rfl⟩ : ∃ v u, vs = #[v, u] := by match vs, this with | ⟨[x, y]⟩, _ => exact ⟨x, y, rfl⟩
    exact ⟨v, u, rfl, hrel 0 v c rfl rfl, hrel 1 u d rfl rfl⟩
  unfold primGo at h
  split at h
  · subst k
    split at h
    case h_2 => cases h
    rename_i s p
    split at h
    case isFalse => cases h
    rename_i hs
    obtain ⟨rfl, rfl⟩ := Prod.mk.inj (Option.some.inj h)
    obtain ⟨v, u, rfl, r1, r2⟩ := two _ _ rfl
    cases r1; cases r2
    refine (hp.sfx f hn s p w hfi hs).callable fun v w' hb hv => ?_
    subst hv
    exact post_plain m hw0 hbase0 hb (.bool _ _ fun _ h => h) rfl
  split at h
  · subst k
    split at h
    case h_2 => cases h
    rename_i s sep
    split at h
    case isFalse => cases h
    rename_i hs
    obtain ⟨rfl, rfl⟩ := Prod.mk.inj (Option.some.inj h)
    obtain ⟨v, u, rfl, r1, r2⟩ := two _ _ rfl
    cases r1; cases r2
    refine (hp.spl f hn s sep w hfi hs.1 hs.2).callable fun v w' hb hv => ?_
    obtain ⟨rfl, t, ht⟩ := hv
    have hlen : (splitT s sep).length = Lib.countB s sep + 1 := Lib.splitB_all sep hs.2 0 _ s rfl
    have hle := Lib.countB_le sep hs.2 s.size s (Nat.le_refl _)
    exact post_texts m hw0 hbase0 hb (by rw [hlen]; unfold maxLen; omega) ht
  split at h
  · subst k
    split at h
    case h_2 => cases h
    rename_i rows sep
    split at h
    case h_2 => cases h
    rename_i xs hx
    split at h
    case isFalse => cases h
    rename_i hs
    obtain ⟨rfl, rfl⟩ := Prod.mk.inj (Option.some.inj h)
    obtain ⟨v, u, rfl, r1, r2⟩ := two _ _ rfl
    obtain ⟨hl, hc⟩ := textsOf_cells hx
    cases r2
    cases r1 with
    | sl _ _ _ _ h1 hm _ _ =>
      have hB := hm rfl
      cases hB with
      | nil _ _ a cap =>
        have : xs = [] := by simpa using hl
        subst this
        refine (hp.joi f hn a cap [] sep w hfi (.inl rfl) hs.1 hs.2).callable fun v w' hb hv => ?_
        subst hv
        exact post_plain m hw0 hbase0 hb (.str _ _ fun _ h => h) rfl
      | sl _ _ _ b o cap us hcap hb' hrow hcell hin =>
        rw [← hl]
        refine (hp.joi f hn (some ⟨b, o, none⟩) cap xs sep w hfi (.inr ⟨b, o, rfl, ?_, by omega, fun j x hj => ?_⟩) hs.1 hs.2).callable fun v w' hb hv => ?_
        · have h3 := m.R_old b hb'
          rw [hw0] at h3
          exact h3.1
        · have h3 := hc j x hj
          have h4 := hcell j 0 _ h3
          have h5 := hin j 0 _ h3
          rw [Nat.mul_one, Nat.add_zero] at h4
          rw [h4]
          generalize us j 0 = uv at h5
          cases h5
          rfl
        · subst hv
          exact post_plain m hw0 hbase0 hb (.str _ _ fun _ h => h) rfl
  split at h
  · subst k
    split at h
    case h_2 => cases h
    rename_i n
    split at h
    case isFalse => cases h
    rename_i hs
    obtain ⟨rfl, rfl⟩ := Prod.mk.inj (Option.some.inj h)
    obtain ⟨v, rfl, r1⟩ := one _ rfl
    cases r1
    refine (hp.ito f hn n w hfi hs.1 hs.2).callable fun v w' hb hv => ?_
    subst hv
    exact post_plain m hw0 hbase0 hb (.str _ _ fun _ h => h) rfl
  split at h
  · subst k
    split at h
    case h_2 => cases h
    rename_i s
    split at h
    case isFalse => cases h
    rename_i hs
    obtain ⟨rfl, rfl⟩ := Prod.mk.inj (Option.some.inj h)
    obtain ⟨v, rfl, r1⟩ := one _ rfl
    cases r1
    refine (hp.ato f hn s w hfi hs).callable fun v w' hb hv => ?_
    subst hv
    exact post_plain m hw0 hbase0 hb (.int _ _ _ fun _ h => h) rfl
  · cases h

/-- A program that calls none of them. -/
theorem primsOk_none {P : Program} {num : Nat → Option FuncId} {fz : List (Nat × Obj)} (h1 : num 222 = none) (h2 : num 220 = none) (h3 : num 230 = none) (h4 : num 231 = none) (h5 : num 221 = none) : PrimsOk P num fz :=
  ⟨fun f h => (by rw [h1] at h; cases h), fun f h => (by rw [h2] at h; cases h), fun f h => (by rw [h3] at h; cases h), fun f h => (by rw [h4] at h; cases h), fun f h => (by rw [h5] at h; cases h)⟩

/-- What is asked of the sorts, comparison by comparison. -/
theorem srtAll_of {P : Program} {num : Nat → Option FuncId} (h : ∀ e ∈ sortTab, ∀ f t fs, num e.1 = some f → num (1000 + e.1) = some t → num kSort = some fs → SortOk P fs f t e.2.1 e.2.2.1 e.2.2.2) : SrtAll P num :=
  fun kl o c sz hm f t fs h1 h2 h3 => h (kl, o, c, sz) (by simpa using hm) f t fs h1 h2 h3
theorem srtAll_none {P : Program} {num : Nat → Option FuncId} (h : num kSort = none) : SrtAll P num := fun _ _ _ _ _ f t fs _ _ h3 => by rw [h] at h3; cases h3
end Go.Proofs.YtaikddhcplfpmaaGreatDoor
