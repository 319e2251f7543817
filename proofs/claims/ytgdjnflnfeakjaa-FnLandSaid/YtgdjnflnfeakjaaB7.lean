/- Draws: any book; a book, a berth and wants; a book and a parcel. · Draws: a book and a parcel. · The book: ok stays ok; twice is once; nothing is given to another before its time. Plain Lean. · The laws' own equalities of books and parcels, at one thing and itself. · FnExactMateLandTick: the plain law. · FnLand: the plain law. · The library's functions: that a program's own do as YtgdjnflnfeakjaaLib says where their contracts hold. -/
import Derived.Test.YtgdjnflnfeakjaaB6
import Derived.Test.YtgdjnflnfeakjaaB4
import Derived.Test.YtgdjnflnfeakjaaB1
import Derived.Lib.SplitLaws
namespace Go.Proofs.Ytgdjnflnfeakjaa
open Go
set_option linter.unusedSimpArgs false
set_option maxRecDepth 100000

def head141 (bs : List Int) (q : Int) (n : Int) (l : Land) (i : Nat) : St :=
  hd [(0, .ptr 0 0 0), (2, .ptr 1 0 0), (3, .ptr 2 0 0), (4, .int .i64 n), (5, .int .i64 i)]
    [rdBox bs q, .box zeroL, .box [.int .i64 l.time, .ref 3, .ref 4], .arr 5 (l.grants.map Grant.c), .arr 3 (l.places.map (Place.c .own))] 1

structure Land.mild (l : Land) : Prop where
  small : l.small
  grants : l.grants.length ≤ 50
  places : l.places.length ≤ 10

theorem law141 (bs : List Int) (p : Int) (hb : Code bs) (h0 : 0 ≤ p) (hp : p ≤ 700000000) : Ends (F 141 [.ptr 0 0 0] [rdBox bs p]) (Drew bs p 500 fun x => ∃ l' : Land, IsLand l' x ∧ l'.mild) := by
  refine F_ends fn141 rfl ?_
  obtain ⟨_, a1, x, q, rfl, a2, a3, l, rfl, hl⟩ := law158 bs p hb h0 (by omega)
  have hs := hl.small (by omega) (by omega)
  have hg3 := hl.grants
  have hp3 := hl.places
  have htm := hl.time
  obtain ⟨b1, b2, b3⟩ := law89 bs q 20 hb (by omega) (by omega) (by omega)
  simp only [rdBox, Land.c] at a1 b1
  by_cases k0 : pickV bs q 20 = 0
  · obtain ⟨_, c1, x, q', rfl, c2, c3, l', ⟨m, rfl⟩, c4, c5, c6⟩ := law157 bs (q + 1) l hb (by omega) (by omega) hl
    simp only [rdBox, Land.c] at c1
    simp [c141, rdBox, a1, b1, k0, c1]
    exact ⟨_, q', rfl, by omega, by omega, l', isL m (by simp), c4, by omega, by omega⟩
  by_cases k1 : pickV bs q 20 = 1
  · obtain ⟨c1, c2, c3⟩ := law89 bs (q + 1) 2 hb (by omega) (by omega) (by omega)
    have c4 := c3 (by omega)
    have u1 : IntKind.i64.wrap (40 - pickV bs (q + 1) 2) = 40 - pickV bs (q + 1) 2 := i64w (by omega) (by omega)
    simp only [rdBox] at c1
    simp [c141, rdBox, a1, b1, k0, k1, c1, u1]
    obtain ⟨n, hn⟩ : ∃ n, n = 40 - pickV bs (q + 1) 2 := ⟨_, rfl⟩
    rw [← hn]
    refine loop_end (σ := Nat × Int × Land) (fun z => head141 bs z.2.1 n z.2.2 z.1) (fun z => z.1 ≤ 50 ∧ q + 2 ≤ z.2.1 ∧ z.2.1 ≤ q + 2 + z.1 ∧ z.2.2.time = l.time ∧ z.2.2.places = l.places ∧ z.2.2.grants.length = l.grants.length + z.1 ∧ z.2.2.grants.length ≤ 40) (fun z => 50 - z.1) (fun z Y hinv hY => ?_) (0, q + 1 + 1, l) ?_ ⟨by omega, by simp only; omega, by simp only; omega, rfl, rfl, by simp, by simp only; omega⟩ (by unfold big; simp)
    · obtain ⟨i, q', x⟩ := z
      obtain ⟨g1, g2, g3, g4, g5, g6, g7⟩ := hinv
      simp only at g1 g2 g3 g4 g5 g6 g7 hY ⊢
      by_cases hi : (x.grants.length : Int) < n
      · have hw : IntKind.i64.wrap ((i : Int) + 1) = (i : Int) + 1 := i64w (by omega) (by omega)
        obtain ⟨e1, e2, e3⟩ := law89 bs q' 3 hb (by omega) (by omega) (by omega)
        have e4 := e3 (by omega)
        have ht : IntKind.i64.wrap (x.time + pickV bs q' 3) = x.time + pickV bs q' 3 := i64w (by omega) (by omega)
        simp only [rdBox] at e1
        obtain ⟨y1, hy1⟩ : ∃ y, IntKind.u8.wrap (IntKind.i64.wrap (97 + IntKind.i64.wrap ((i : Int) / 26))) = y := ⟨_, rfl⟩
        obtain ⟨y2, hy2⟩ : ∃ y, IntKind.u8.wrap (IntKind.i64.wrap (97 + (i : Int).tmod 26)) = y := ⟨_, rfl⟩
        have hsz : ∀ a b : UInt8, (⟨#[122]⟩ : T).size + (⟨#[a, b]⟩ : T).size ≤ 9223372036854775807 := fun _ _ => by show 1 + 2 ≤ 9223372036854775807; decide
        have l1 : x.grants.length * 64 ≤ 140737488355328 := by omega
        have l2 : x.grants.length ≤ 140737488355328 := by omega
        have l3 : (x.grants.length + 1) * 64 ≤ 140737488355328 := by omega
        have l4 : x.grants.length + 1 ≤ 140737488355328 := by omega
        simp [head141, rdBox, c141b0, hi, hy1, hy2, toBytes, e1, ht, hsz, takeRows, rowsG1, l1, l2, l3, l4]
        refine hY (i + 1, q' + 1, ⟨x.time, x.grants ++ [⟨(⟨#[122]⟩ : T) ++ ⟨#[UInt8.ofNat y1.toNat, UInt8.ofNat y2.toNat]⟩, ⟨#[98]⟩, ⟨#[99]⟩, 0, x.time + pickV bs q' 3⟩], x.places⟩) _ ⟨by simp only; omega, by simp only; omega, by simp only; omega, g4, g5, by simp; omega, by simp; omega⟩ (by simp only; omega) ?_
        simp [head141, rdBox, zeroL, hw, List.range, List.range.loop]
      · simp [head141, rdBox, c141b0, zeroL, hi]
        exact ⟨_, q', rfl, by omega, by omega, x, isL false (by simp [mdB]), ⟨by omega, by rw [g5]; exact hs.places, by rw [g5]; exact hs.each⟩, by omega, by rw [g5]; omega⟩
    · simp [head141, rdBox, zeroL, List.range, List.range.loop]
  by_cases k2 : pickV bs q 20 = 2
  · obtain ⟨c1, c2, c3⟩ := law89 bs (q + 1) 2 hb (by omega) (by omega) (by omega)
    have c4 := c3 (by omega)
    simp only [rdBox] at c1
    simp [c141, rdBox, a1, b1, k0, k1, k2, c1]
    exact ⟨_, q + 1 + 1, rfl, by omega, by omega, { l with time := _ }, isL false rfl, ⟨hs.grants, hs.places, hs.each⟩, by simp only; omega, by simp only; omega⟩
  · simp [c141, rdBox, a1, b1, k0, k1, k2]
    exact ⟨_, q + 1, rfl, by omega, by omega, l, isL false (by simp [mdB]), hs, by omega, by omega⟩

theorem law74 (bs : List Int) (hl : bs.length ≤ 1000000000) (h : ∀ b ∈ bs, 0 ≤ b ∧ b ≤ 255) : ∃ (l : Land) (m : Bool) (b : T) (ws : List Want), F 74 [.sl .imm 1 (bs.map rowB)] [] = some (.tup [.agg (l.c .own (mdB m)), .str b, .sl .own 7 (ws.map Want.c)], []) ∧ l.mild ∧ ws.length ≤ 10 := by
  have hb := Code.take h
  have w0 := law91 bs hl
  generalize bs.take 2000 = cs at hb w0
  obtain ⟨_, a1, x, q, rfl, a2, a3, l, ⟨m, rfl⟩, hl⟩ := law141 cs 0 hb (by omega) (by omega)
  obtain ⟨_, c1, x, q', rfl, c2, c3, ws, rfl, c4, c5⟩ := law145 cs q hb (by omega) (by omega)
  obtain ⟨d1, d2, d3⟩ := law89 cs q' 8 hb (by omega) (by omega) (by omega)
  simp only [rdBox, Land.c] at a1 c1 d1
  by_cases k : pickV cs q' 8 = 0 ∧ ws ≠ []
  · obtain ⟨k0, k1⟩ := k
    rcases ws with _ | ⟨w, ws⟩
    · exact absurd rfl k1
    obtain ⟨w', p', e1, e2, e3, e4⟩ := law144 cs (q' + 1) w hb (by omega) (by omega) (c5 w List.mem_cons_self)
    obtain ⟨f1, f2, f3⟩ := law89 cs p' 7 hb (by omega) (by omega) (by omega)
    have f4 := f3 (by omega)
    have hpos : (0 : Int) < (ws.length : Int) + 1 := by omega
    simp only [rdBox, Want.c, List.map_cons] at c1 e1 f1
    refine ⟨l, m, selT [⟨#[97]⟩, ⟨#[98]⟩, ⟨#[100]⟩, ⟨#[101]⟩, ⟨#[102]⟩, ⟨#[]⟩, ⟨#[120, 32, 121]⟩] (pickV cs p' 7), w' :: ws, F_run fn74 rfl ?_, hl, by simp at c4 ⊢; omega⟩
    simp [c74, w0, a1, c1, d1, k0, hpos, e1, f1, f2, f4]
  · obtain ⟨f1, f2, f3⟩ := law89 cs (q' + 1) 7 hb (by omega) (by omega) (by omega)
    have f4 := f3 (by omega)
    simp only [rdBox] at f1
    refine ⟨l, m, selT [⟨#[97]⟩, ⟨#[98]⟩, ⟨#[100]⟩, ⟨#[101]⟩, ⟨#[102]⟩, ⟨#[]⟩, ⟨#[120, 32, 121]⟩] (pickV cs (q' + 1) 7), ws, F_run fn74 rfl ?_, hl, by omega⟩
    by_cases k0 : pickV cs q' 8 = 0
    · have k1 : ws = [] := Classical.byContradiction fun h => k ⟨k0, h⟩
      subst k1
      simp only [List.map_nil] at c1
      simp [c74, w0, a1, c1, d1, k0, f1, f2, f4]
    · simp [c74, w0, a1, c1, d1, k0, f1, f2, f4]
end Go.Proofs.Ytgdjnflnfeakjaa

namespace Go.Proofs.Ytgdjnflnfeakjaa
open Go
set_option linter.unusedSimpArgs false
set_option maxRecDepth 100000

def zeroP : List AV := [.int .i64 0, .str ⟨#[]⟩, .int .i64 0, .sl .own 7 [], .str ⟨#[]⟩, .str ⟨#[]⟩, .int .i64 0]
def tl78c : CCode := (.seq (.seq (.region [
    ⟨some 117, .mov (.tmp 4), none⟩,
    ⟨some 118, .call 89 [true, false] [.tmp 117, .const (.int .i64 20)], none⟩] [2, 3, 4, 5, 6, 118])
  (.block 4
    (.seq (.region [
      ⟨some 120, .bin .eql (.tmp 118) (.const (.int .i64 0)), none⟩,
      ⟨some 119, .mov (.tmp 120), none⟩] [2, 3, 4, 5, 6, 118, 119])
    (.cond (.tmp 119)
      (.region [
        ⟨some 121, .bslice 1 [.int .i64 0] 3 [(0, .const (.int .i64 (-1))), (1, .const (.int .i64 1000000)), (2, .const (.int .i64 1000001))], none⟩,
        ⟨some 122, .mov (.tmp 4), none⟩,
        ⟨some 123, .call 89 [true, false] [.tmp 122, .const (.int .i64 3)], none⟩,
        ⟨some 124, .iaddr 1 (.tmp 121) (.tmp 123), none⟩,
        ⟨some 125, .load (.tmp 124) 1 false .plain, none⟩,
        ⟨some 126, .faddr (.tmp 6) 6, none⟩,
        ⟨none, .store (.tmp 126) (.tmp 125) 1, none⟩] [2, 3, 5, 6])
      (.seq (.region [
        ⟨some 128, .bin .eql (.tmp 118) (.const (.int .i64 1)), none⟩,
        ⟨some 127, .mov (.tmp 128), none⟩] [2, 3, 4, 5, 6, 127])
      (.cond (.tmp 127)
        (.region [
          ⟨some 129, .bslice 1 [.str ⟨#[]⟩] 3 [(0, .const (.str ⟨#[]⟩)), (1, .const (.str ⟨#[120, 32, 121]⟩)), (2, .const (.str ⟨#[42]⟩))], none⟩,
          ⟨some 130, .mov (.tmp 4), none⟩,
          ⟨some 131, .call 89 [true, false] [.tmp 130, .const (.int .i64 3)], none⟩,
          ⟨some 132, .iaddr 1 (.tmp 129) (.tmp 131), none⟩,
          ⟨some 133, .load (.tmp 132) 1 false .plain, none⟩,
          ⟨some 134, .faddr (.tmp 6) 4, none⟩,
          ⟨none, .store (.tmp 134) (.tmp 133) 1, none⟩] [2, 3, 5, 6])
        .skip))))))
  (.seq (.loud [
    ⟨some 135, .load (.tmp 5) 3 true .plain, none⟩,
    ⟨some 136, .load (.tmp 6) 7 true .plain, none⟩,
    ⟨none, .store (.tmp 2) (.tmp 135) 3, none⟩,
    ⟨none, .store (.tmp 3) (.tmp 136) 7, none⟩] [0, 0, 1, 7] [2, 3])
  .ret))
theorem c78_cut : c78 = ⟨137, [.cell 2 3 true, .cell 3 7 true],
  (.seq (.region [
    ⟨some 2, .alloc [.int .i64 0, .sl .own 5 [], .sl .own 3 []], none⟩,
    ⟨some 3, .alloc [.int .i64 0, .str ⟨#[]⟩, .int .i64 0, .sl .own 7 [], .str ⟨#[]⟩, .str ⟨#[]⟩, .int .i64 0], none⟩] [0, 2, 3])
  (.seq (.region [
    ⟨some 11, .mov (.tmp 0), none⟩,
    ⟨some 12, .call 91 [false] [.tmp 11], none⟩,
    ⟨some 4, .mov (.tmp 12), none⟩] [2, 3, 4])
  (.seq (.region [
    ⟨some 13, .mov (.tmp 4), none⟩,
    ⟨some 14, .call 141 [true] [.tmp 13], none⟩,
    ⟨some 5, .alloc [.int .i64 0, .sl .own 5 [], .sl .own 3 []], none⟩,
    ⟨none, .store (.tmp 5) (.tmp 14) 3, none⟩] [2, 3, 4, 5])
  (.seq (.loud [
    ⟨some 15, .bslice 1 [.int .i64 0] 8 [(0, .const (.int .i64 2)), (1, .const (.int .i64 2)), (2, .const (.int .i64 2)), (3, .const (.int .i64 4)), (4, .const (.int .i64 4)), (5, .const (.int .i64 6)), (6, .const (.int .i64 1)), (7, .const (.int .i64 3))], none⟩,
    ⟨some 16, .mov (.tmp 4), none⟩,
    ⟨some 17, .call 89 [true, false] [.tmp 16, .const (.int .i64 8)], none⟩,
    ⟨some 18, .iaddr 1 (.tmp 15) (.tmp 17), none⟩,
    ⟨some 19, .load (.tmp 18) 1 false .plain, none⟩,
    ⟨some 20, .bslice 1 [.str ⟨#[]⟩] 2 [(0, .const (.str ⟨#[97]⟩)), (1, .const (.str ⟨#[98]⟩))], none⟩,
    ⟨some 21, .mov (.tmp 4), none⟩,
    ⟨some 22, .call 89 [true, false] [.tmp 21, .const (.int .i64 2)], none⟩,
    ⟨some 23, .iaddr 1 (.tmp 20) (.tmp 22), none⟩,
    ⟨some 24, .load (.tmp 23) 1 false .plain, none⟩,
    ⟨some 25, .bslice 1 [.str ⟨#[]⟩] 3 [(0, .const (.str ⟨#[105, 112]⟩)), (1, .const (.str ⟨#[118, 111, 108]⟩)), (2, .const (.str ⟨#[118, 111, 108, 50]⟩))], none⟩,
    ⟨some 26, .mov (.tmp 4), none⟩,
    ⟨some 27, .call 89 [true, false] [.tmp 26, .const (.int .i64 3)], none⟩,
    ⟨some 28, .iaddr 1 (.tmp 25) (.tmp 27), none⟩,
    ⟨some 29, .load (.tmp 28) 1 false .plain, none⟩,
    ⟨some 30, .mov (.tmp 4), none⟩,
    ⟨some 31, .call 89 [true, false] [.tmp 30, .const (.int .i64 4)], none⟩,
    ⟨some 32, .call 140 [false] [.tmp 31], none⟩,
    ⟨some 33, .bin .add (.const (.str ⟨#[99]⟩)) (.tmp 32), none⟩,
    ⟨some 34, .mov (.tmp 4), none⟩,
    ⟨some 35, .call 89 [true, false] [.tmp 34, .const (.int .i64 60)], none⟩,
    ⟨some 36, .build [.int .i64 0, .str ⟨#[]⟩, .int .i64 0, .sl .own 7 [], .str ⟨#[]⟩, .str ⟨#[]⟩, .int .i64 0] [(0, 1, .tmp 19), (1, 1, .tmp 24), (4, 1, .tmp 29), (5, 1, .tmp 33), (6, 1, .tmp 35)], none⟩,
    ⟨some 6, .alloc [.int .i64 0, .str ⟨#[]⟩, .int .i64 0, .sl .own 7 [], .str ⟨#[]⟩, .str ⟨#[]⟩, .int .i64 0], none⟩,
    ⟨none, .store (.tmp 6) (.tmp 36) 7, none⟩] [0, 0, 2, 7, 15, 0, 0, 70, 230, 486, 0, 0, 2246, 7366, 15558, 0, 39110, 104646, 235718, 0, 760006, 2097151, 0, 8388607] [2, 3, 4, 5, 6])
  (.seq (.seq (.region [
    ⟨some 7, .mov (.const (.int .i64 0)), none⟩] [2, 3, 4, 5, 6, 7])
  (.block 0
    (.loop [2, 3, 4, 5, 6, 7] c78b1)))
  (.seq (.region [
    ⟨some 85, .load (.tmp 5) 3 true .plain, none⟩,
    ⟨some 86, .faddr (.tmp 6) 4, none⟩,
    ⟨some 87, .load (.tmp 86) 1 false .plain, none⟩,
    ⟨some 88, .call 139 [false, false] [.tmp 85, .tmp 87], none⟩,
    ⟨some 10, .mov (.tmp 88), none⟩] [2, 3, 4, 5, 6, 10])
  (.seq (.seq (.region [
    ⟨some 89, .mov (.tmp 10), none⟩,
    ⟨some 90, .bin .geq (.tmp 89) (.const (.int .i64 0)), none⟩,
    ⟨some 91, .mov (.tmp 90), none⟩,
    ⟨some 92, .mov (.tmp 4), some (91, true)⟩,
    ⟨some 93, .call 89 [true, false] [.tmp 92, .const (.int .i64 2)], some (91, true)⟩,
    ⟨some 94, .bin .eql (.tmp 93) (.const (.int .i64 0)), some (91, true)⟩,
    ⟨some 95, .pick (.tmp 91) (.tmp 94) (.const (.bool false)), none⟩] [2, 3, 4, 5, 6, 10, 95])
  (.cond (.tmp 95)
    (.seq (.loud [
      ⟨some 96, .faddr (.tmp 5) 1, none⟩,
      ⟨some 97, .load (.tmp 96) 1 false .plain, none⟩,
      ⟨some 98, .mov (.tmp 10), none⟩,
      ⟨some 99, .iaddr 5 (.tmp 97) (.tmp 98), none⟩,
      ⟨some 100, .faddr (.tmp 99) 3, none⟩,
      ⟨some 101, .load (.tmp 100) 1 false .plain, none⟩,
      ⟨some 102, .mov (.tmp 4), none⟩,
      ⟨some 103, .call 89 [true, false] [.tmp 102, .const (.int .i64 3)], none⟩,
      ⟨some 104, .bin .add (.tmp 101) (.tmp 103), none⟩,
      ⟨some 105, .bin .sub (.tmp 104) (.const (.int .i64 1)), none⟩,
      ⟨some 106, .faddr (.tmp 6) 6, none⟩,
      ⟨none, .store (.tmp 106) (.tmp 105) 1, none⟩] [0, 1, 0, 7, 15, 31, 0, 64, 255, 511, 1023, 2047] [2, 3, 4, 5, 6, 10])
    (.seq (.region [
      ⟨some 107, .mov (.tmp 4), none⟩,
      ⟨some 108, .call 89 [true, false] [.tmp 107, .const (.int .i64 3)], none⟩,
      ⟨some 109, .bin .gtr (.tmp 108) (.const (.int .i64 0)), none⟩] [2, 3, 4, 5, 6, 10, 109])
    (.cond (.tmp 109)
      (.region [
        ⟨some 110, .faddr (.tmp 5) 1, none⟩,
        ⟨some 111, .load (.tmp 110) 1 false .plain, none⟩,
        ⟨some 112, .mov (.tmp 10), none⟩,
        ⟨some 113, .iaddr 5 (.tmp 111) (.tmp 112), none⟩,
        ⟨some 114, .faddr (.tmp 113) 1, none⟩,
        ⟨some 115, .load (.tmp 114) 1 false .plain, none⟩,
        ⟨some 116, .faddr (.tmp 6) 1, none⟩,
        ⟨none, .store (.tmp 116) (.tmp 115) 1, none⟩] [2, 3, 4, 5, 6])
      .skip)))
    .skip))
  tl78c)))))))⟩ := rfl

def head78a (bs : List Int) (q : Int) (l : Land) (b : Bool) (p : Parcel) (i : Nat) : St :=
  hd [(2, .ptr 0 0 0), (3, .ptr 1 0 0), (4, .ptr 2 0 0), (5, .ptr 3 0 0), (6, .ptr 4 0 0), (7, .int .i64 i)]
    [.box zeroL, .box zeroP, rdBox bs q, .box [.int .i64 l.time, .ref 5, .ref 6], .box (p.c .own), .arr 5 (l.grants.map Grant.c), .arr 3 (l.places.map (Place.c (mdB b)))] 0
def head78b (bs : List Int) (q : Int) (l : Land) (b : Bool) (p : Parcel) (i j : Nat) : St :=
  hd [(2, .ptr 0 0 0), (3, .ptr 1 0 0), (4, .ptr 2 0 0), (5, .ptr 3 0 0), (6, .ptr 4 0 0), (7, .int .i64 i), (8, .int .i64 j)]
    [.box zeroL, .box zeroP, rdBox bs q, .box [.int .i64 l.time, .ref 5, .ref 6], .box (p.c .own), .arr 5 (l.grants.map Grant.c), .arr 3 (l.places.map (Place.c (mdB b)))] 0

def Res78 (l : Land) (b : Bool) (r : AV × List (Option AO)) : Prop := ∃ p : Parcel, p.wants = [] ∧ r = (.tup [.agg (l.c .own (mdB b)), .agg (p.c .own)], [])

theorem last78 (bs : List Int) (q : Int) (l : Land) (b : Bool) (p : Parcel) (hb : Code bs) (h0 : 0 ≤ q) (hq : q ≤ 100000000) (hpw : p.wants = []) (s : St) (n : Nat) (s2 : s.slots 2 = .ptr 0 0 0) (s3 : s.slots 3 = .ptr 1 0 0) (s4 : s.slots 4 = .ptr 2 0 0) (s5 : s.slots 5 = .ptr 3 0 0) (s6 : s.slots 6 = .ptr 4 0 0)
    (h00 : s.heap 0 = some (.box zeroL)) (h1 : s.heap 1 = some (.box zeroP)) (h2 : s.heap 2 = some (rdBox bs q)) (h3 : s.heap 3 = some (.box [.int .i64 l.time, .ref 5, .ref 6])) (h4 : s.heap 4 = some (.box (p.c .own))) (h5 : s.heap 5 = some (.arr 5 (l.grants.map Grant.c))) (h6 : s.heap 6 = some (.arr 3 (l.places.map (Place.c (mdB b)))))
    (hn : s.next = n + 7) : Ends (fin [.cell 2 3 true, .cell 3 7 true] 0 (X F [.code tl78c] (.normal, s))) (Res78 l b) := by
  obtain ⟨b1, b2, b3⟩ := law89 bs q 20 hb (by omega) (by omega) (by omega)
  simp only [rdBox] at b1 h2
  by_cases k0 : pickV bs q 20 = 0
  · obtain ⟨c1, c2, c3⟩ := law89 bs (q + 1) 3 hb (by omega) (by omega) (by omega)
    have c4 := c3 (by omega)
    simp only [rdBox] at c1
    simp [tl78c, s2, s3, s4, s5, s6, h00, h1, h2, h3, h4, h5, h6, hn, b1, k0, c1, c2, c4, zeroL, zeroP, hpw]
    exact ⟨{ p with at_ := selI [-1, 1000000, 1000001] (pickV bs (q + 1) 3) }, hpw, by simp [hpw]⟩
  by_cases k1 : pickV bs q 20 = 1
  · obtain ⟨c1, c2, c3⟩ := law89 bs (q + 1) 3 hb (by omega) (by omega) (by omega)
    have c4 := c3 (by omega)
    simp only [rdBox] at c1
    simp [tl78c, s2, s3, s4, s5, s6, h00, h1, h2, h3, h4, h5, h6, hn, b1, k0, k1, c1, c2, c4, zeroL, zeroP, hpw]
    exact ⟨{ p with hold := selT [⟨#[]⟩, ⟨#[120, 32, 121]⟩, ⟨#[42]⟩] (pickV bs (q + 1) 3) }, hpw, by simp [hpw]⟩
  · simp [tl78c, s2, s3, s4, s5, s6, h00, h1, h2, h3, h4, h5, h6, hn, b1, k0, k1, zeroL, zeroP, hpw]
    exact ⟨p, hpw, by simp [hpw]⟩

theorem last78' (bs : List Int) (q : Int) (l : Land) (b : Bool) (p : Parcel) (hb : Code bs) (h0 : 0 ≤ q) (hq : q ≤ 100000000) (hpw : p.wants = []) (s : St) (h : (s.slots 2 = .ptr 0 0 0 ∧ s.slots 3 = .ptr 1 0 0 ∧ s.slots 4 = .ptr 2 0 0 ∧ s.slots 5 = .ptr 3 0 0 ∧ s.slots 6 = .ptr 4 0 0) ∧
    (s.heap 0 = some (.box zeroL) ∧ s.heap 1 = some (.box zeroP) ∧ s.heap 2 = some (rdBox bs q) ∧ s.heap 3 = some (.box [.int .i64 l.time, .ref 5, .ref 6]) ∧ s.heap 4 = some (.box (p.c .own)) ∧ s.heap 5 = some (.arr 5 (l.grants.map Grant.c)) ∧ s.heap 6 = some (.arr 3 (l.places.map (Place.c (mdB b))))) ∧ 7 ≤ s.next) :
    Ends (fin [.cell 2 3 true, .cell 3 7 true] 0 (X F [.code tl78c] (.normal, s))) (Res78 l b) := by
  obtain ⟨⟨a1, a2, a3, a4, a5⟩, ⟨b1, b2, b3, b4, b5, b6, b7⟩, c⟩ := h
  exact last78 bs q l b p hb h0 hq hpw s (s.next - 7) a1 a2 a3 a4 a5 b1 b2 b3 b4 b5 b6 b7 (by omega)

theorem law78 (bs : List Int) (hl : bs.length ≤ 1000000000) (h : ∀ b ∈ bs, 0 ≤ b ∧ b ≤ 255) : ∃ (l : Land) (b : Bool), l.mild ∧ Ends (F 78 [.sl .imm 1 (bs.map rowB)] []) (Res78 l b) := by
  have hb := Code.take h
  have w0 := law91 bs hl
  generalize bs.take 2000 = cs at hb w0
  obtain ⟨_, a1, x, q, rfl, a2, a3, l, ⟨b, rfl⟩, hl⟩ := law141 cs 0 hb (by omega) (by omega)
  refine ⟨l, b, hl, F_ends fn78 rfl ?_⟩
  have hp10 := hl.places
  have hg50 := hl.grants
  obtain ⟨b1, b2, b3⟩ := law89 cs q 8 hb (by omega) (by omega) (by omega)
  have b4 := b3 (by omega)
  obtain ⟨c1, c2, c3⟩ := law89 cs (q + 1) 2 hb (by omega) (by omega) (by omega)
  have c4 := c3 (by omega)
  obtain ⟨d1, d2, d3⟩ := law89 cs (q + 1 + 1) 3 hb (by omega) (by omega) (by omega)
  have d4 := d3 (by omega)
  obtain ⟨e1, e2, e3⟩ := law89 cs (q + 1 + 1 + 1) 4 hb (by omega) (by omega) (by omega)
  have e4 := e3 (by omega)
  obtain ⟨f1, f2, f3⟩ := law89 cs (q + 1 + 1 + 1 + 1) 60 hb (by omega) (by omega) (by omega)
  have n1 := law140 (pickV cs (q + 1 + 1 + 1) 4).toNat (by omega)
  rw [Int.toNat_of_nonneg e2] at n1
  have n2 := cName_size (i := (pickV cs (q + 1 + 1 + 1) 4).toNat) (by omega)
  have n3 : (⟨#[99]⟩ : T).size + (dec (pickV cs (q + 1 + 1 + 1) 4).toNat).size ≤ 9223372036854775807 := by rw [app_size] at n2; omega
  generalize dec (pickV cs (q + 1 + 1 + 1) 4).toNat = nm at n1 n3
  simp only [rdBox, Land.c] at a1 b1 c1 d1 e1 f1
  simp [c78_cut, w0, a1, b1, b2, b4, c1, c2, c4, d1, d2, d4, e1, f1, n1, n3]
  refine loop_end (σ := Nat × Int × Parcel) (fun z => head78a cs z.2.1 l b z.2.2 z.1) (fun z => z.1 ≤ l.places.length ∧ q ≤ z.2.1 ∧ z.2.1 ≤ q + 5 + 1048577 * z.1 ∧ z.2.2.wants = []) (fun z => l.places.length - z.1) (fun z Y hinv hY => ?_) (0, q + 1 + 1 + 1 + 1 + 1, ⟨selI [2, 2, 2, 4, 4, 6, 1, 3] (pickV cs q 8), selT [⟨#[97]⟩, ⟨#[98]⟩] (pickV cs (q + 1) 2), 0, [], selT [⟨#[105, 112]⟩, ⟨#[118, 111, 108]⟩, ⟨#[118, 111, 108, 50]⟩] (pickV cs (q + 1 + 1) 3), ⟨#[99]⟩ ++ nm, pickV cs (q + 1 + 1 + 1 + 1) 60⟩) ?_ ⟨by omega, by simp only; omega, by simp only; omega, rfl⟩ (by simp only; unfold big; omega)
  · obtain ⟨i, q', p⟩ := z
    obtain ⟨g1, g2, g3, g4⟩ := hinv
    simp only at g1 g2 g3 g4 hY ⊢
    by_cases hi : i < l.places.length
    · have hiI : (i : Int) < l.places.length := by omega
      have hw : IntKind.i64.wrap ((i : Int) + 1) = (i : Int) + 1 := i64w (by omega) (by omega)
      obtain ⟨pl, hpl⟩ : ∃ pl, l.places[i] = pl := ⟨_, rfl⟩
      have hps := (hl.small.each pl (hpl ▸ List.getElem_mem _)).wants
      simp [head78a, rdBox, c78b1, hi, hiI, hpl, g4]
      refine loop_end (σ := Nat × Int × Parcel) (fun z => head78b cs z.2.1 l b z.2.2 i z.1) (fun z => z.1 ≤ pl.wants.length ∧ q ≤ z.2.1 ∧ z.2.1 ≤ q + 5 + 1048577 * i + z.1 ∧ z.2.2.wants = []) (fun z => pl.wants.length - z.1) (fun z Y2 hinv hY2 => ?_) (0, q', p) ?_ ⟨by omega, by simp only; omega, by simp only; omega, g4⟩ (by simp only; unfold big; omega)
      · obtain ⟨j, q2, y⟩ := z
        obtain ⟨j1, j2, j3, j4⟩ := hinv
        simp only at j1 j2 j3 j4 hY2 ⊢
        by_cases hj : j < pl.wants.length
        · have hjI : (j : Int) < pl.wants.length := by omega
          have hwj : IntKind.i64.wrap ((j : Int) + 1) = (j : Int) + 1 := i64w (by omega) (by omega)
          obtain ⟨w, hwt⟩ : ∃ w, pl.wants[j] = w := ⟨_, rfl⟩
          obtain ⟨u1, u2, u3⟩ := law89 cs q2 3 hb (by omega) (by omega) (by omega)
          simp only [rdBox] at u1
          cases v1 : sEq w.hold ⟨#[]⟩
          · by_cases v2 : pickV cs q2 3 = 0
            · cases b <;> simp [head78b, rdBox, c78b0, mdB, hi, hiI, hpl, hj, hjI, hwt, v1, u1, v2, j4] <;> refine hY2 (j + 1, q2 + 1, { y with berth := pl.berth, hold := w.hold, copy := w.copy }) _ ⟨by simp only; omega, by simp only; omega, by simp only; omega, j4⟩ (by simp only; omega) ?_ <;> simp [head78b, rdBox, zeroL, zeroP, mdB, hwj, j4]
            · cases b <;> simp [head78b, rdBox, c78b0, mdB, hi, hiI, hpl, hj, hjI, hwt, v1, u1, v2, j4] <;> refine hY2 (j + 1, q2 + 1, y) _ ⟨by simp only; omega, by simp only; omega, by simp only; omega, j4⟩ (by simp only; omega) ?_ <;> simp [head78b, rdBox, zeroL, zeroP, mdB, hwj, j4]
          · cases b <;> simp [head78b, rdBox, c78b0, mdB, hi, hiI, hpl, hj, hjI, hwt, v1, j4] <;> refine hY2 (j + 1, q2, y) _ ⟨by simp only; omega, by simp only; omega, by simp only; omega, j4⟩ (by simp only; omega) ?_ <;> simp [head78b, rdBox, zeroL, zeroP, mdB, hwj, j4]
        · have hjI : ¬ (j : Int) < pl.wants.length := by omega
          cases b <;> simp [head78b, rdBox, c78b0, mdB, hi, hiI, hpl, hjI, j4] <;> refine hY (i + 1, q2, y) _ ⟨by simp only; omega, by simp only; omega, by simp only; omega, j4⟩ (by simp only; omega) ?_ <;> simp [head78a, rdBox, zeroL, zeroP, mdB, hw, j4]
      · simp [head78b, rdBox, zeroL, zeroP, g4]
    · have hiI : ¬ (i : Int) < l.places.length := by omega
      have w139 := law139 l (mdB b) p.hold hl.small
      simp only [Land.c] at w139
      obtain ⟨x1, x2, x3⟩ := law89 cs q' 2 hb (by omega) (by omega) (by omega)
      obtain ⟨y1, y2, y3⟩ := law89 cs (q' + 1) 3 hb (by omega) (by omega) (by omega)
      obtain ⟨z1, z2, z3⟩ := law89 cs (q' + 1 + 1) 3 hb (by omega) (by omega) (by omega)
      simp only [rdBox] at x1 y1 z1
      rcases findG_cases p.hold l.grants 0 with ⟨h1, h2, h3⟩ | ⟨j, g, h1, h2, h3, h4⟩
      · rw [h1] at w139
        simp [head78a, rdBox, c78b1, hiI, w139, g4]
        refine last78' cs q' l b p hb (by omega) (by omega) g4 _ ?_
        simp [head78a, rdBox, zeroL, zeroP, g4]
      · rw [h3] at w139
        simp only [Nat.zero_add] at w139
        obtain ⟨hj, hgj⟩ := List.getElem?_eq_some_iff.1 h1
        have hjI : (j : Int) < l.grants.length := by omega
        by_cases v1 : pickV cs q' 2 = 0
        · by_cases v2 : 0 < pickV cs (q' + 1 + 1) 3
          · simp [head78a, rdBox, c78b1, hiI, w139, g4, x1, y1, z1, v1, v2, hj, hjI, hgj]
            refine last78' cs (q' + 1 + 1 + 1) l b { p with berth := g.berth, at_ := IntKind.i64.wrap (IntKind.i64.wrap (g.at_ + pickV cs (q' + 1) 3) - 1) } hb (by omega) (by omega) g4 _ ?_
            simp [head78a, rdBox, zeroL, zeroP, g4]
          · simp [head78a, rdBox, c78b1, hiI, w139, g4, x1, y1, z1, v1, v2, hj, hjI, hgj]
            refine last78' cs (q' + 1 + 1 + 1) l b { p with at_ := IntKind.i64.wrap (IntKind.i64.wrap (g.at_ + pickV cs (q' + 1) 3) - 1) } hb (by omega) (by omega) g4 _ ?_
            simp [head78a, rdBox, zeroL, zeroP, g4]
        · simp [head78a, rdBox, c78b1, hiI, w139, g4, x1, v1]
          refine last78' cs (q' + 1) l b p hb (by omega) (by omega) g4 _ ?_
          simp [head78a, rdBox, zeroL, zeroP, g4]
  · simp [head78a, rdBox, zeroL, zeroP]
end Go.Proofs.Ytgdjnflnfeakjaa

namespace Go.Proofs.Ytgdjnflnfeakjaa
open Go
set_option linter.unusedSimpArgs false

theorem grantsGo_iff (t : Int) : ∀ (r pre : List Grant), Asc Grant.k pre → (grantsGo t pre r = true ↔ (∀ g ∈ r, grantOk t g = true) ∧ Asc Grant.k (pre ++ r))
  | [], pre, h => by simp [grantsGo, h]
  | p :: r, pre, h => by
    simp only [grantsGo, Bool.and_eq_true]
    have e : ascG pre p = ascL Grant.k pre p := by unfold ascG ascL; cases pre.getLast? <;> rfl
    have h2 := asc_snoc Grant.k pre p h
    constructor
    · rintro ⟨h1, h3, h4⟩
      have h5 := h2.1 (by rw [← e]; exact h3)
      obtain ⟨h6, h7⟩ := (grantsGo_iff t r _ h5).1 h4
      refine ⟨fun g hg => ?_, by simpa using h7⟩
      rcases List.mem_cons.1 hg with rfl | hg
      · exact h1
      · exact h6 g hg
    · rintro ⟨h1, h3⟩
      have h5 : Asc Grant.k (pre ++ [p]) := by
        have : (pre ++ p :: r) = (pre ++ [p]) ++ r := by simp
        rw [this] at h3
        exact (List.pairwise_append.1 h3).1
      refine ⟨h1 p List.mem_cons_self, by rw [e]; exact h2.2 h5, (grantsGo_iff t r _ h5).2 ⟨fun g hg => h1 g (List.mem_cons_of_mem _ hg), by simpa using h3⟩⟩

structure LandIs (l : Land) : Prop where
  time : 0 ≤ l.time ∧ l.time ≤ 2000000
  even : l.time.tmod 2 = 0
  ng : l.grants.length ≤ 40
  np : l.places.length ≤ 4
  grants : ∀ g ∈ l.grants, grantOk l.time g = true
  asc : Asc Grant.k l.grants
  places : placesGo [] l.places = true

theorem landOk_iff (l : Land) : landOk l = true ↔ LandIs l := by
  simp only [landOk, inR, Bool.and_eq_true, decide_eq_true_eq, grantsGo_iff l.time l.grants [] (Asc.nil _), List.nil_append]
  constructor
  · rintro ⟨h1, h2, h3, h4, ⟨h5, h6⟩, h7⟩
    exact ⟨h1, h2, h3, h4, h5, h6, h7⟩
  · rintro ⟨h1, h2, h3, h4, h5, h6, h7⟩
    exact ⟨h1, h2, h3, h4, ⟨h5, h6⟩, h7⟩

theorem LandIs.set {l : Land} (h : LandIs l) {gs : List Grant} (h1 : gs.length ≤ 40) (h2 : ∀ g ∈ gs, grantOk l.time g = true) (h3 : Asc Grant.k gs) : LandIs { l with grants := gs } := ⟨h.time, h.even, h1, h.np, h2, h3, h.places⟩

theorem newGrant_ok {l : Land} (h : LandIs l) {p : Parcel} (hp : takeOk p = true) : grantOk l.time (newGrant l.time p) = true := by
  simp only [takeOk, Bool.and_eq_true] at hp
  obtain ⟨h1, h2, h3, h4⟩ := hp
  have hw : IntKind.i64.wrap (l.time + 32) = l.time + 32 := i64w (by have := h.time; omega) (by have := h.time; omega)
  have ht := h.time
  have e : inR (l.time + 32) 0 (l.time + 32) = true := by simp [inR]; omega
  simp only [grantOk, newGrant, Bool.and_eq_true, hw]
  exact ⟨h2, h1, h3, h4, e⟩

theorem grantOf_some {h : T} {gs : List Grant} {g : Grant} (hg : grantOf h gs = some g) : g ∈ gs ∧ g.hold = h := by
  unfold grantOf at hg
  exact ⟨List.mem_of_find?_eq_some hg, (sEq_iff _ _).1 (by simpa using List.find?_some hg)⟩
theorem grantOf_none {h : T} {gs : List Grant} (hg : grantOf h gs = none) : Lacks Grant.k h gs := fun y hy e => by
  unfold grantOf at hg
  have := List.find?_eq_none.1 hg y hy
  exact this ((sEq_iff _ _).2 e)

theorem asc_same {gs : List Grant} (ha : Asc Grant.k gs) {g h : Grant} (hg : g ∈ gs) (hh : h ∈ gs) (e : g.hold = h.hold) : g = h := by
  obtain ⟨i, hi⟩ := List.getElem?_of_mem hg
  obtain ⟨j, hj⟩ := List.getElem?_of_mem hh
  have := asc_inj Grant.k ha hi hj e
  subst this
  rw [hi] at hj
  exact Option.some.inj hj

theorem grantOf_mem {gs : List Grant} (ha : Asc Grant.k gs) {g : Grant} (hg : g ∈ gs) : grantOf g.hold gs = some g := by
  cases h : grantOf g.hold gs with
  | none => exact absurd rfl (grantOf_none h g hg)
  | some x =>
    obtain ⟨h1, h2⟩ := grantOf_some h
    rw [asc_same ha h1 hg h2]

theorem putBy_len_hit {x g : Grant} {gs : List Grant} (ha : Asc Grant.k gs) (hg : g ∈ gs) (he : g.hold = x.hold) : (putBy Grant.k x gs).length = gs.length := by
  obtain ⟨i, hi⟩ := List.getElem?_of_mem hg
  rw [putBy_set Grant.k ha hi he, List.length_set]

theorem mem_putBy_self {x : Grant} : ∀ {gs : List Grant}, x ∈ putBy Grant.k x gs
  | [] => by simp [putBy]
  | y :: ys => by
    unfold putBy
    split
    · exact List.mem_cons_of_mem _ mem_putBy_self
    · split <;> exact List.mem_cons_self

theorem putBy_twice {x : Grant} {gs : List Grant} (ha : Asc Grant.k gs) : putBy Grant.k x (putBy Grant.k x gs) = putBy Grant.k x gs := by
  have h1 := putBy_asc Grant.k (x := x) ha
  obtain ⟨i, hi⟩ := List.getElem?_of_mem (mem_putBy_self (x := x) (gs := gs))
  rw [putBy_set Grant.k h1 hi rfl]
  obtain ⟨hl, he⟩ := List.getElem?_eq_some_iff.1 hi
  have : (putBy Grant.k x gs).set i ((putBy Grant.k x gs)[i]) = putBy Grant.k x gs := List.set_getElem_self hl
  rwa [he] at this

theorem lives40_sub {t : Int} {gs : List Grant} : (lives40 t gs).Sublist gs := by
  unfold lives40
  split
  · exact List.filter_sublist
  · exact List.Sublist.refl _

theorem landGive_is {l x : Land} {p : Parcel} (h : LandIs l) (hp : takeOk p = true) (hg : landGive l p = some x) : LandIs x ∧ x.places = l.places ∧ x.time = l.time ∧ ∃ gs, gs.Sublist l.grants ∧ x.grants = putBy Grant.k (newGrant l.time p) gs ∧
    (∀ g ∈ l.grants, g.hold = p.hold → blocks l.time p g = false) := by
  unfold landGive at hg
  split at hg
  case isFalse => cases hg
  have key : ∀ gs : List Grant, gs.Sublist l.grants → (putBy Grant.k (newGrant l.time p) gs).length ≤ 40 → LandIs { l with grants := putBy Grant.k (newGrant l.time p) gs } := fun gs hs hl => by
    refine h.set hl (fun g hg => ?_) (putBy_asc Grant.k (h.asc.sublist hs))
    rcases mem_putBy Grant.k hg with rfl | hg
    · exact newGrant_ok h hp
    · exact h.grants g (hs.subset hg)
  cases hG : grantOf p.hold l.grants with
  | some g =>
    rw [hG] at hg
    simp only at hg
    split at hg
    · cases hg
    · rename_i hb
      obtain rfl := Option.some.inj hg
      obtain ⟨h1, h2⟩ := grantOf_some hG
      refine ⟨key _ (List.Sublist.refl _) (by rw [putBy_len_hit h.asc h1 h2]; exact h.ng), rfl, rfl, _, List.Sublist.refl _, rfl, fun g' hg' e => ?_⟩
      rw [asc_same h.asc hg' h1 (e.trans h2.symm)]
      simpa using hb
  | none =>
    rw [hG] at hg
    simp only at hg
    split at hg
    · cases hg
    · rename_i hb
      obtain rfl := Option.some.inj hg
      refine ⟨key _ lives40_sub (by have := putBy_len Grant.k (newGrant l.time p) (lives40 l.time l.grants); omega), rfl, rfl, _, lives40_sub, rfl, fun g' hg' e => absurd e (grantOf_none hG g' hg')⟩

theorem eraseG_sub {h : T} : ∀ {gs : List Grant}, (eraseG h gs).Sublist gs
  | [] => List.Sublist.refl _
  | g :: r => by
    unfold eraseG
    split
    · exact List.sublist_cons_self g r
    · exact eraseG_sub.cons_cons g

theorem eraseG_lacks {h : T} : ∀ {gs : List Grant}, Asc Grant.k gs → Lacks Grant.k h (eraseG h gs)
  | [], _ => fun y hy => by simp [eraseG] at hy
  | g :: r, ha => by
    have h1 := List.pairwise_cons.1 ha
    unfold eraseG
    split
    · rename_i q
      intro y hy e
      have := h1.1 y hy
      unfold Grant.k at this e
      rw [e, (sEq_iff _ _).1 q, sLt_irrefl] at this
      cases this
    · rename_i q
      intro y hy
      rcases List.mem_cons.1 hy with rfl | hy
      · exact fun e => q ((sEq_iff _ _).2 e)
      · exact eraseG_lacks h1.2 y hy

theorem grantOf_lacks {h : T} {gs : List Grant} (hl : Lacks Grant.k h gs) : grantOf h gs = none := by
  unfold grantOf
  rw [List.find?_eq_none]
  exact fun y hy e => hl y hy ((sEq_iff _ _).1 e)

theorem landBack_is {l : Land} {p : Parcel} (h : LandIs l) : LandIs (landBack l p) ∧ (landBack l p).places = l.places ∧ (landBack l p).time = l.time ∧ (landBack l p).grants.Sublist l.grants := by
  unfold landBack
  cases grantOf p.hold l.grants with
  | none => exact ⟨h, rfl, rfl, List.Sublist.refl _⟩
  | some g =>
    simp only
    split
    · exact ⟨h.set (Nat.le_trans eraseG_sub.length_le h.ng) (fun g hg => h.grants g (eraseG_sub.subset hg)) (h.asc.sublist eraseG_sub), rfl, rfl, eraseG_sub⟩
    · exact ⟨h, rfl, rfl, List.Sublist.refl _⟩

theorem landTake_ok {l : Land} {p : Parcel} (h : landOk l = true) : landOk (landTake l p).1 = true := by
  have hi := (landOk_iff l).1 h
  unfold landTake
  rw [if_pos h]
  by_cases hp : takeOk p = true
  · rw [if_pos hp]
    by_cases k2 : p.kind = 2
    · rw [if_pos k2]
      cases hg : landGive l p with
      | none => exact h
      | some x => exact (landOk_iff x).2 (landGive_is hi hp hg).1
    · rw [if_neg k2]
      by_cases k4 : p.kind = 4
      · rw [if_pos k4]; exact (landOk_iff _).2 (landBack_is hi).1
      · rw [if_neg k4]; exact h
  · rw [if_neg hp]; exact h

theorem landTake_twice {l : Land} {p : Parcel} (h : landOk l = true) : landTake (landTake l p).1 p = landTake l p := by
  have hi := (landOk_iff l).1 h
  have h2 := landTake_ok (p := p) h
  unfold landTake at h2 ⊢
  rw [if_pos h] at h2 ⊢
  by_cases hp : takeOk p = true
  · rw [if_pos hp] at h2 ⊢
    by_cases k2 : p.kind = 2
    · rw [if_pos k2] at h2 ⊢
      cases hg : landGive l p with
      | none =>
        rw [hg] at h2
        simp only
        rw [if_pos h, if_pos hp, if_pos k2, hg]
      | some x =>
        rw [hg] at h2
        simp only at h2 ⊢
        rw [if_pos h2, if_pos hp, if_pos k2]
        obtain ⟨i1, i2, i3, gs, i4, i5, _⟩ := landGive_is hi hp hg
        have hw : l.places.any (wantsHold p.berth p.copy p.hold) = true := by
          unfold landGive at hg
          split at hg
          · assumption
          · cases hg
        have e : landGive x p = some x := by
          have hm : newGrant l.time p ∈ x.grants := by rw [i5]; exact mem_putBy_self
          have hG := grantOf_mem i1.asc hm
          have hb : blocks x.time p (newGrant l.time p) = false := by
            unfold blocks newGrant
            simp
          unfold landGive
          rw [i2, if_pos hw]
          rw [show p.hold = (newGrant l.time p).hold from rfl, hG]
          simp only [hb, Bool.false_eq_true, if_false]
          congr 1
          rw [i3, i5, putBy_twice (hi.asc.sublist i4), ← i5]
          cases x
          simp only at i2 i3
          rw [i3, i2]
        rw [e]
    · rw [if_neg k2] at h2 ⊢
      by_cases k4 : p.kind = 4
      · rw [if_pos k4] at h2 ⊢
        simp only at h2 ⊢
        rw [if_pos h2, if_pos hp, if_neg k2, if_pos k4]
        congr 1
        unfold landBack
        cases hG : grantOf p.hold l.grants with
        | none => simp only [hG]
        | some g =>
          simp only
          cases hc : (sEq g.berth p.berth && decide (g.at_ ≤ p.at_)) with
          | true =>
            simp only [if_true, grantOf_lacks (eraseG_lacks hi.asc)]
          | false =>
            simp only [Bool.false_eq_true, if_false, hG, hc]
      · rw [if_neg k4] at h2 ⊢
        simp only
        rw [if_pos h, if_pos hp, if_neg k2, if_neg k4]
  · rw [if_neg hp] at h2 ⊢
    simp only
    rw [if_pos h, if_neg hp]

theorem landTake_apart {l : Land} {p : Parcel} (h : landOk l = true) {g x : Grant} (hg : g ∈ l.grants) (hx : x ∈ (landTake l p).1.grants) (he : x.hold = g.hold) (ht : l.time < g.til) : x.berth = g.berth ∧ x.copy = g.copy := by
  have hi := (landOk_iff l).1 h
  have same : x ∈ l.grants → x.berth = g.berth ∧ x.copy = g.copy := fun h1 => by rw [asc_same hi.asc h1 hg he]; exact ⟨rfl, rfl⟩
  unfold landTake at hx
  rw [if_pos h] at hx
  by_cases hp : takeOk p = true
  · rw [if_pos hp] at hx
    by_cases k2 : p.kind = 2
    · rw [if_pos k2] at hx
      cases hG : landGive l p with
      | none => rw [hG] at hx; exact same hx
      | some y =>
        rw [hG] at hx
        obtain ⟨i1, i2, i3, gs, i4, i5, i6⟩ := landGive_is hi hp hG
        simp only [i5] at hx
        rcases mem_putBy Grant.k hx with rfl | hx
        · have hb := i6 g hg he.symm
          simp only [blocks, ht, decide_true, Bool.true_and, Bool.not_eq_false', Bool.and_eq_true] at hb
          exact ⟨((sEq_iff _ _).1 hb.1).symm, ((sEq_iff _ _).1 hb.2.1).symm⟩
        · exact same (i4.subset hx)
    · rw [if_neg k2] at hx
      by_cases k4 : p.kind = 4
      · rw [if_pos k4] at hx
        exact same ((landBack_is hi).2.2.2.subset hx)
      · rw [if_neg k4] at hx; exact same hx
  · rw [if_neg hp] at hx; exact same hx
end Go.Proofs.Ytgdjnflnfeakjaa

namespace Go.Proofs.Ytgdjnflnfeakjaa
open Go
set_option linter.unusedSimpArgs false
set_option maxRecDepth 100000

theorem eqsGrant (a : Grant) : eqCells [.s, .s, .s, .i, .i] a.c a.c = some true := by simp [eqCells, eqCell]

def head73a (m m' : Md) (l : Land) (i : Nat) : St := hd [(2, .ptr 0 0 0), (3, .ptr 1 0 0), (5, .int .i64 i)] [.box (l.c .bor m), .box (l.c .bor m')] 0
def head73b (m m' : Md) (l : Land) (i : Nat) : St := hd [(2, .ptr 0 0 0), (3, .ptr 1 0 0), (6, .int .i64 i)] [.box (l.c .bor m), .box (l.c .bor m')] 0

theorem law73 (m m' : Md) (l : Land) (hl : l.small) : F 73 [.agg (l.c .bor m), .agg (l.c .bor m')] [] = some (.bool true, []) := by
  refine F_run fn73 rfl ?_
  have hg := hl.grants
  have hp := hl.places
  simp [c73]
  refine (loop_list l.grants (fun i (_ : Unit) => head73a m m' l i) (fun _ _ => True) (fun _ _ _ => (.bool true, [])) (fun acc Y _ => ?_) (fun i a r acc Y ha hi hr _ hY => ?_) () ?_ trivial ?_).trans rfl
  · simp [head73a, c73b0]
    refine (loop_list l.places (fun i (_ : Unit) => head73b m m' l i) (fun _ _ => True) (fun _ _ _ => (.bool true, [])) (fun acc Y _ => ?_) (fun i a r acc Y ha hi hr _ hY => ?_) () ?_ trivial ?_).trans rfl
    · simp [head73b, c73b1]
    · have hw : IntKind.i64.wrap ((i : Int) + 1) = (i : Int) + 1 := i64w (by omega) (by omega)
      obtain ⟨_, hg⟩ := List.getElem?_eq_some_iff.1 ha
      have hps := (hl.each a (List.mem_of_getElem? ha)).wants
      have hpd : ∀ (h : i < l.places.length), l.places[i]'h = a := fun _ => hg
      have w118 := law118 a.wants hps
      simp [head73b, c73b1, hi, hpd, w118]
      refine hY () _ trivial ?_
      simp [head73b, hw]
    · simp [head73b]
    · unfold big; omega
  · have hw : IntKind.i64.wrap ((i : Int) + 1) = (i : Int) + 1 := i64w (by omega) (by omega)
    obtain ⟨_, hg⟩ := List.getElem?_eq_some_iff.1 ha
    have he := eqsGrant a
    simp only [Grant.c] at he
    simp [head73a, c73b0, hi, hg, he]
    refine hY () _ trivial ?_
    simp [head73a, hw]
  · simp [head73a]
  · unfold big; omega

def headWParcel (m m' : Md) (xs : List Parcel) (i : Nat) : St := hd [(0, .sl .bor 7 (xs.map (Parcel.c m))), (1, .sl .bor 7 (xs.map (Parcel.c m'))), (5, .int .i64 i)] [] 0

theorem law75 (m m' : Md) (xs : List Parcel) (hl : xs.length ≤ 1048576) (he : ∀ p ∈ xs, p.small) : F 75 [.sl .bor 7 (xs.map (Parcel.c m)), .sl .bor 7 (xs.map (Parcel.c m'))] [] = some (.bool true, []) := by
  refine F_run fn75 rfl ?_
  simp [c75]
  refine (loop_list xs (fun i (_ : Unit) => headWParcel m m' xs i) (fun _ _ => True) (fun _ _ _ => (.bool true, [])) (fun acc Y _ => ?_) (fun i a r acc Y ha hi hr _ hY => ?_) () ?_ trivial ?_).trans rfl
  · simp [headWParcel, c75b0]
  · have hw : IntKind.i64.wrap ((i : Int) + 1) = (i : Int) + 1 := i64w (by omega) (by omega)
    obtain ⟨_, hg⟩ := List.getElem?_eq_some_iff.1 ha
    have w143 := law143 a (he a (List.mem_of_getElem? ha))
    simp only [Parcel.c] at w143
    simp [headWParcel, c75b0, hi, hg, w143]
    refine hY () _ trivial ?_
    simp [headWParcel, hw]
  · simp [headWParcel]
  · unfold big; omega
end Go.Proofs.Ytgdjnflnfeakjaa

namespace Go.Proofs.Ytgdjnflnfeakjaa
open Go
set_option linter.unusedSimpArgs false
set_option maxRecDepth 100000

theorem zeroLand_small : Land.zero.small := ⟨by simp [Land.zero], by simp [Land.zero], by simp [Land.zero]⟩

theorem landOk_places {l : Land} (h : landOk l = true) : l.places.length ≤ 4 := by
  unfold landOk at h
  simp only [Bool.and_eq_true, decide_eq_true_eq] at h
  omega

theorem landTick_small {l : Land} (h : l.small) : (landTick l).1.small ∧ (landTick l).1.places.length ≤ 4 ∧ (landTick l).2.length ≤ 4 ∧ ∀ p ∈ (landTick l).2, p.small := by
  unfold landTick
  split
  · rename_i hv
    have h4 := landOk_places hv
    split
    · exact ⟨h, h4, by simp, by simp⟩
    · refine ⟨⟨h.grants, h.places, h.each⟩, h4, by simpa using h4, fun p hp => ?_⟩
      obtain ⟨q, hq, rfl⟩ := List.mem_map.1 hp
      exact ⟨(h.each q hq).wants⟩
  · exact ⟨zeroLand_small, by simp [Land.zero], by simp, by simp⟩

end Go.Proofs.Ytgdjnflnfeakjaa

namespace Go.Proofs.Ytgdjnflnfeakjaa
open Go
set_option linter.unusedSimpArgs false
set_option maxRecDepth 100000

theorem landTake_small {l : Land} {p : Parcel} (h : l.mild) : (landTake l p).1.small ∧ (landTake l p).1.grants.length ≤ 51 ∧ (landTake l p).2.length ≤ 1 ∧ (∀ q ∈ (landTake l p).2, q.wants = []) ∧ (landOk l = false → (landTake l p).2 = []) := by
  have h1 := h.grants
  unfold landTake
  by_cases hv : landOk l = true
  · rw [if_pos hv]
    have hi := (landOk_iff l).1 hv
    have hno : ∀ P : Prop, landOk l = false → P := fun P e => by rw [hv] at e; cases e
    by_cases hp : takeOk p = true
    · rw [if_pos hp]
      by_cases k2 : p.kind = 2
      · rw [if_pos k2]
        cases hg : landGive l p with
        | none => exact ⟨h.small, by simp only; omega, by simp, fun q hq => by simp at hq, hno _⟩
        | some x =>
          obtain ⟨i1, i2, _⟩ := landGive_is hi hp hg
          exact ⟨⟨by have := i1.ng; simp only; omega, by rw [i2]; exact h.small.places, by rw [i2]; exact h.small.each⟩, by have := i1.ng; simp only; omega, by simp, fun q hq => by rw [List.mem_singleton.1 hq]; rfl, hno _⟩
      · rw [if_neg k2]
        by_cases k4 : p.kind = 4
        · rw [if_pos k4]
          obtain ⟨i1, i2, _⟩ := landBack_is (p := p) hi
          exact ⟨⟨by have := i1.ng; simp only; omega, by rw [i2]; exact h.small.places, by rw [i2]; exact h.small.each⟩, by have := i1.ng; simp only; omega, by simp, fun q hq => by rw [List.mem_singleton.1 hq]; rfl, hno _⟩
        · rw [if_neg k4]
          exact ⟨h.small, by simp only; omega, by simp, fun q hq => by simp at hq, hno _⟩
    · rw [if_neg hp]
      exact ⟨h.small, by simp only; omega, by simp, fun q hq => by simp at hq, hno _⟩
  · rw [if_neg hv]
    exact ⟨zeroLand_small, by simp [Land.zero], by simp, fun q hq => by simp at hq, fun _ => rfl⟩
def tl181 : CCode := (.seq (.region [
    ⟨some 164, .mov (.tmp 0), none⟩,
    ⟨some 165, .call 74 [false] [.tmp 164], none⟩,
    ⟨some 163, .mov (.tmp 165), none⟩,
    ⟨some 166, .ext (.tmp 163) 0, none⟩,
    ⟨some 167, .ext (.tmp 163) 1, none⟩,
    ⟨some 168, .ext (.tmp 163) 2, none⟩,
    ⟨some 19, .alloc [.int .i64 0, .sl .own 5 [], .sl .own 3 []], none⟩,
    ⟨none, .store (.tmp 19) (.tmp 166) 3, none⟩,
    ⟨some 20, .mov (.tmp 167), none⟩,
    ⟨some 21, .mov (.tmp 168), none⟩] [19, 20, 21])
  (.seq (.region [
    ⟨some 170, .load (.tmp 19) 3 true .plain, none⟩,
    ⟨some 171, .mov (.tmp 20), none⟩,
    ⟨some 172, .mov (.tmp 21), none⟩,
    ⟨some 173, .call 70 [false, false, false] [.tmp 170, .tmp 171, .tmp 172], none⟩,
    ⟨some 169, .mov (.tmp 173), none⟩,
    ⟨some 174, .ext (.tmp 169) 0, none⟩,
    ⟨some 175, .ext (.tmp 169) 1, none⟩,
    ⟨some 22, .alloc [.int .i64 0, .sl .own 5 [], .sl .own 3 []], none⟩,
    ⟨none, .store (.tmp 22) (.tmp 174) 3, none⟩,
    ⟨some 23, .mov (.tmp 175), none⟩] [19, 20, 21, 22, 23])
  (.seq (.region [
    ⟨some 177, .load (.tmp 19) 3 true .plain, none⟩,
    ⟨some 178, .mov (.tmp 20), none⟩,
    ⟨some 179, .mov (.tmp 21), none⟩,
    ⟨some 180, .call 72 [false, false, false] [.tmp 177, .tmp 178, .tmp 179], none⟩,
    ⟨some 176, .mov (.tmp 180), none⟩,
    ⟨some 181, .ext (.tmp 176) 0, none⟩,
    ⟨some 182, .ext (.tmp 176) 1, none⟩,
    ⟨some 24, .alloc [.int .i64 0, .sl .own 5 [], .sl .own 3 []], none⟩,
    ⟨none, .store (.tmp 24) (.tmp 181) 3, none⟩,
    ⟨some 25, .mov (.tmp 182), none⟩] [22, 23, 24, 25])
  (.seq (.region [
    ⟨some 183, .mov (.tmp 23), none⟩,
    ⟨some 184, .mov (.tmp 25), none⟩,
    ⟨some 185, .bin .eql (.tmp 183) (.tmp 184), none⟩,
    ⟨some 186, .mov (.tmp 185), none⟩,
    ⟨some 187, .load (.tmp 22) 3 true .plain, some (186, true)⟩,
    ⟨some 188, .load (.tmp 24) 3 true .plain, some (186, true)⟩,
    ⟨some 189, .call 73 [false, false] [.tmp 187, .tmp 188], some (186, true)⟩,
    ⟨some 190, .pick (.tmp 186) (.tmp 189) (.const (.bool false)), none⟩,
    ⟨some 191, .mov (.tmp 190), none⟩,
    ⟨some 192, .mov (.tmp 23), some (191, true)⟩,
    ⟨some 193, .bin .eql (.tmp 192) (.const (.int .i64 1)), some (191, true)⟩,
    ⟨some 194, .mov (.tmp 193), some (191, true)⟩,
    ⟨some 195, .load (.tmp 22) 3 true .plain, some (194, false)⟩,
    ⟨some 196, .call 23 [false] [.tmp 195], some (194, false)⟩,
    ⟨some 197, .pick (.tmp 194) (.const (.bool true)) (.tmp 196), some (191, true)⟩,
    ⟨some 198, .pick (.tmp 191) (.tmp 197) (.const (.bool false)), none⟩,
    ⟨some 2, .mov (.tmp 198), none⟩] [2])
  .ret))))
theorem c181_cut : c181 = ⟨199, [.tmp 2],
  (.seq (.region [
    ⟨some 2, .mov (.const (.bool false)), none⟩] [0])
  (.seq (.seq (.region [
    ⟨some 26, .mov (.tmp 0), none⟩,
    ⟨some 27, .len false (.tmp 26), none⟩,
    ⟨some 28, .bin .gtr (.tmp 27) (.const (.int .i64 1048576)), none⟩] [0, 28])
  (.cond (.tmp 28)
    (.seq (.region [
      ⟨some 2, .mov (.const (.bool true)), none⟩] [2])
    .ret)
    .skip))
  (.seq (.region [
    ⟨some 30, .mov (.tmp 0), none⟩,
    ⟨some 31, .call 78 [false] [.tmp 30], none⟩,
    ⟨some 29, .mov (.tmp 31), none⟩,
    ⟨some 32, .ext (.tmp 29) 0, none⟩,
    ⟨some 33, .ext (.tmp 29) 1, none⟩,
    ⟨some 3, .alloc [.int .i64 0, .sl .own 5 [], .sl .own 3 []], none⟩,
    ⟨some 4, .alloc [.int .i64 0, .str ⟨#[]⟩, .int .i64 0, .sl .own 7 [], .str ⟨#[]⟩, .str ⟨#[]⟩, .int .i64 0], none⟩,
    ⟨none, .store (.tmp 3) (.tmp 32) 3, none⟩,
    ⟨none, .store (.tmp 4) (.tmp 33) 7, none⟩] [0, 3, 4])
  (.seq (.region [
    ⟨some 35, .load (.tmp 3) 3 true .plain, none⟩,
    ⟨some 36, .load (.tmp 4) 7 true .plain, none⟩,
    ⟨some 37, .call 76 [false, false] [.tmp 35, .tmp 36], none⟩,
    ⟨some 34, .mov (.tmp 37), none⟩,
    ⟨some 38, .ext (.tmp 34) 0, none⟩,
    ⟨some 39, .ext (.tmp 34) 1, none⟩,
    ⟨some 5, .alloc [.int .i64 0, .sl .own 5 [], .sl .own 3 []], none⟩,
    ⟨none, .store (.tmp 5) (.tmp 38) 3, none⟩,
    ⟨some 6, .mov (.tmp 39), none⟩] [0, 3, 4, 5, 6])
  (.seq (.region [
    ⟨some 41, .load (.tmp 3) 3 true .plain, none⟩,
    ⟨some 42, .load (.tmp 4) 7 true .plain, none⟩,
    ⟨some 43, .call 77 [false, false] [.tmp 41, .tmp 42], none⟩,
    ⟨some 40, .mov (.tmp 43), none⟩,
    ⟨some 44, .ext (.tmp 40) 0, none⟩,
    ⟨some 45, .ext (.tmp 40) 1, none⟩,
    ⟨some 7, .alloc [.int .i64 0, .sl .own 5 [], .sl .own 3 []], none⟩,
    ⟨none, .store (.tmp 7) (.tmp 44) 3, none⟩,
    ⟨some 8, .mov (.tmp 45), none⟩] [0, 3, 4, 5, 6, 7, 8])
  (.seq (.seq (.region [
    ⟨some 46, .load (.tmp 5) 3 true .plain, none⟩,
    ⟨some 47, .load (.tmp 7) 3 true .plain, none⟩,
    ⟨some 48, .call 73 [false, false] [.tmp 46, .tmp 47], none⟩,
    ⟨some 49, .un .not (.tmp 48), none⟩,
    ⟨some 50, .mov (.tmp 49), none⟩,
    ⟨some 51, .mov (.tmp 6), some (50, false)⟩,
    ⟨some 52, .mov (.tmp 8), some (50, false)⟩,
    ⟨some 53, .call 75 [false, false] [.tmp 51, .tmp 52], some (50, false)⟩,
    ⟨some 54, .un .not (.tmp 53), some (50, false)⟩,
    ⟨some 55, .pick (.tmp 50) (.const (.bool true)) (.tmp 54), none⟩] [0, 3, 4, 5, 6, 55])
  (.cond (.tmp 55)
    (.seq (.region [
      ⟨some 2, .mov (.const (.bool false)), none⟩] [2])
    .ret)
    .skip))
  (.seq (.region [
    ⟨some 57, .load (.tmp 5) 3 true .plain, none⟩,
    ⟨some 58, .load (.tmp 4) 7 true .plain, none⟩,
    ⟨some 59, .call 76 [false, false] [.tmp 57, .tmp 58], none⟩,
    ⟨some 56, .mov (.tmp 59), none⟩,
    ⟨some 60, .ext (.tmp 56) 0, none⟩,
    ⟨some 61, .ext (.tmp 56) 1, none⟩,
    ⟨some 9, .alloc [.int .i64 0, .sl .own 5 [], .sl .own 3 []], none⟩,
    ⟨none, .store (.tmp 9) (.tmp 60) 3, none⟩,
    ⟨some 10, .mov (.tmp 61), none⟩] [0, 3, 5, 6, 9, 10])
  (.seq (.region [
    ⟨some 63, .load (.tmp 3) 3 true .plain, none⟩,
    ⟨some 64, .call 41 [false] [.tmp 63], none⟩,
    ⟨some 62, .mov (.tmp 64), none⟩,
    ⟨some 65, .ext (.tmp 62) 0, none⟩,
    ⟨some 66, .ext (.tmp 62) 1, none⟩,
    ⟨some 11, .alloc [.int .i64 0, .sl .own 5 [], .sl .own 3 []], none⟩,
    ⟨none, .store (.tmp 11) (.tmp 65) 3, none⟩,
    ⟨some 12, .mov (.tmp 66), none⟩] [0, 3, 5, 6, 9, 10, 11, 12])
  (.seq (.region [
    ⟨some 68, .load (.tmp 3) 3 true .plain, none⟩,
    ⟨some 69, .call 44 [false] [.tmp 68], none⟩,
    ⟨some 67, .mov (.tmp 69), none⟩,
    ⟨some 70, .ext (.tmp 67) 0, none⟩,
    ⟨some 71, .ext (.tmp 67) 1, none⟩,
    ⟨some 13, .alloc [.int .i64 0, .sl .own 5 [], .sl .own 3 []], none⟩,
    ⟨none, .store (.tmp 13) (.tmp 70) 3, none⟩,
    ⟨some 14, .mov (.tmp 71), none⟩] [0, 3, 5, 6, 9, 10, 11, 12, 13, 14])
  (.seq (.seq (.region [
    ⟨some 72, .load (.tmp 11) 3 true .plain, none⟩,
    ⟨some 73, .load (.tmp 13) 3 true .plain, none⟩,
    ⟨some 74, .call 73 [false, false] [.tmp 72, .tmp 73], none⟩,
    ⟨some 75, .un .not (.tmp 74), none⟩,
    ⟨some 76, .mov (.tmp 75), none⟩,
    ⟨some 77, .mov (.tmp 12), some (76, false)⟩,
    ⟨some 78, .mov (.tmp 14), some (76, false)⟩,
    ⟨some 79, .call 75 [false, false] [.tmp 77, .tmp 78], some (76, false)⟩,
    ⟨some 80, .un .not (.tmp 79), some (76, false)⟩,
    ⟨some 81, .pick (.tmp 76) (.const (.bool true)) (.tmp 80), none⟩] [0, 3, 5, 6, 9, 10, 11, 81])
  (.cond (.tmp 81)
    (.seq (.region [
      ⟨some 2, .mov (.const (.bool false)), none⟩] [2])
    .ret)
    .skip))
  (.seq (.seq (.region [
    ⟨some 82, .load (.tmp 3) 3 true .plain, none⟩,
    ⟨some 83, .call 24 [false] [.tmp 82], none⟩,
    ⟨some 84, .un .not (.tmp 83), none⟩] [0, 3, 5, 6, 9, 10, 11, 84])
  (.cond (.tmp 84)
    (.seq (.region [
      ⟨some 85, .mov (.tmp 6), none⟩,
      ⟨some 86, .len false (.tmp 85), none⟩,
      ⟨some 87, .bin .eql (.tmp 86) (.const (.int .i64 0)), none⟩,
      ⟨some 88, .mov (.tmp 87), none⟩,
      ⟨some 89, .load (.tmp 3) 3 true .plain, some (88, true)⟩,
      ⟨some 90, .call 23 [false] [.tmp 89], some (88, true)⟩,
      ⟨some 91, .un .not (.tmp 90), some (88, true)⟩,
      ⟨some 92, .pick (.tmp 88) (.tmp 91) (.const (.bool false)), none⟩,
      ⟨some 2, .mov (.tmp 92), none⟩] [2])
    .ret)
    .skip))
  (.seq (.seq (.region [
    ⟨some 93, .load (.tmp 9) 3 true .plain, none⟩,
    ⟨some 94, .load (.tmp 5) 3 true .plain, none⟩,
    ⟨some 95, .call 73 [false, false] [.tmp 93, .tmp 94], none⟩,
    ⟨some 96, .un .not (.tmp 95), none⟩,
    ⟨some 97, .mov (.tmp 96), none⟩,
    ⟨some 98, .mov (.tmp 10), some (97, false)⟩,
    ⟨some 99, .mov (.tmp 6), some (97, false)⟩,
    ⟨some 100, .call 75 [false, false] [.tmp 98, .tmp 99], some (97, false)⟩,
    ⟨some 101, .un .not (.tmp 100), some (97, false)⟩,
    ⟨some 102, .pick (.tmp 97) (.const (.bool true)) (.tmp 101), none⟩,
    ⟨some 103, .mov (.tmp 102), none⟩,
    ⟨some 104, .load (.tmp 5) 3 true .plain, some (103, false)⟩,
    ⟨some 105, .call 23 [false] [.tmp 104], some (103, false)⟩,
    ⟨some 106, .un .not (.tmp 105), some (103, false)⟩,
    ⟨some 107, .pick (.tmp 103) (.const (.bool true)) (.tmp 106), none⟩,
    ⟨some 108, .mov (.tmp 107), none⟩,
    ⟨some 109, .load (.tmp 11) 3 true .plain, some (108, false)⟩,
    ⟨some 110, .call 23 [false] [.tmp 109], some (108, false)⟩,
    ⟨some 111, .un .not (.tmp 110), some (108, false)⟩,
    ⟨some 112, .pick (.tmp 108) (.const (.bool true)) (.tmp 111), none⟩] [0, 3, 5, 112])
  (.cond (.tmp 112)
    (.seq (.region [
      ⟨some 2, .mov (.const (.bool false)), none⟩] [2])
    .ret)
    .skip))
  (.seq (.seq (.region [
    ⟨some 15, .mov (.const (.int .i64 0)), none⟩] [0, 3, 5, 15])
  (.block 0
    (.loop [0, 3, 5, 15] c181b1)))
  tl181)))))))))))))⟩ := rfl

theorem landTick_ok {l : Land} (h : landOk l = true) : landOk (landTick l).1 = true := by
  have hi := (landOk_iff l).1 h
  unfold landTick
  rw [if_pos h]
  split
  · exact h
  · rename_i ht
    have hb := hi.time
    have he := hi.even
    have hlt : l.time < 2000000 := by omega
    have hm : (l.time + 2).tmod 2 = 0 := by
      rw [Int.tmod_eq_emod_of_nonneg (by omega)]
      rw [Int.tmod_eq_emod_of_nonneg (by omega)] at he
      omega
    refine (landOk_iff _).2 ⟨?_, ?_, hi.ng, hi.np, fun g hg => ?_, hi.asc, hi.places⟩
    · simp only; have hev : l.time % 2 = 0 := by rw [Int.tmod_eq_emod_of_nonneg (by omega)] at he; exact he
      omega
    · exact hm
    · show grantOk (l.time + 2) g = true
      have := hi.grants g hg
      have e1 : IntKind.i64.wrap (l.time + 32) = l.time + 32 := i64w (by omega) (by omega)
      have e2 : IntKind.i64.wrap (l.time + 2 + 32) = l.time + 2 + 32 := i64w (by omega) (by omega)
      simp only [grantOk, inR, Bool.and_eq_true, decide_eq_true_eq, e1, e2] at this ⊢
      exact ⟨this.1, this.2.1, this.2.2.1, this.2.2.2.1, by omega⟩

theorem matePut_code {l : Land} {b : T} {ws : List Want} : (matePut l b ws).2 = 1 ∨ landOk (matePut l b ws).1 = true := by
  unfold matePut
  by_cases h1 : landOk l = true
  · rw [if_pos h1]
    by_cases h2 : (isName b && wantsOk ws) = true
    · rw [if_pos h2]
      by_cases h3 : landOk (landPut l b ws) = true
      · rw [if_pos h3]; exact .inr h3
      · rw [if_neg h3]; exact .inr h1
    · rw [if_neg h2]; exact .inr h1
  · rw [if_neg h1]; exact .inl rfl

def head181a (bs : List Int) (l x : Land) (b : Bool) (i : Nat) : St :=
  hd [(0, .sl .imm 1 (bs.map rowB)), (3, .ptr 0 0 0), (5, .ptr 1 0 0), (15, .int .i64 i)]
    [.box [.int .i64 l.time, .ref 2, .ref 3], .box [.int .i64 x.time, .ref 4, .ref 5], .arr 5 (l.grants.map Grant.c), .arr 3 (l.places.map (Place.c (mdB b))), .arr 5 (x.grants.map Grant.c), .arr 3 (x.places.map (Place.c .own))] 0
def head181b (bs : List Int) (l x : Land) (b : Bool) (i : Nat) (g : Grant) (k : Nat) : St :=
  hd [(0, .sl .imm 1 (bs.map rowB)), (3, .ptr 0 0 0), (5, .ptr 1 0 0), (15, .int .i64 i), (16, .ptr 2 0 0), (17, .int .i64 k)]
    [.box [.int .i64 l.time, .ref 3, .ref 4], .box [.int .i64 x.time, .ref 5, .ref 6], .box g.c, .arr 5 (l.grants.map Grant.c), .arr 3 (l.places.map (Place.c (mdB b))), .arr 5 (x.grants.map Grant.c), .arr 3 (x.places.map (Place.c .own))] 0

theorem tail181 (bs : List Int) (hl : bs.length ≤ 1000000000) (h : ∀ b ∈ bs, 0 ≤ b ∧ b ≤ 255) (l x : Land) (b : Bool) (hlg : l.grants.length ≤ 60) (hxg : x.grants.length ≤ 60) (hap : ∀ g ∈ l.grants, ∀ y ∈ x.grants, y.hold = g.hold → l.time < g.til → y.berth = g.berth ∧ y.copy = g.copy) (s : St) (hs : s.norm [0, 3, 5, 15] = head181a bs l x b 0) :
    fin [.tmp 2] 0 (X F [.code (.loop [0, 3, 5, 15] c181b1), .blk 0, .code tl181] (.normal, s)) = some (.bool true, []) := by
  refine (loop_list l.grants (fun i (_ : Unit) => head181a bs l x b i) (fun _ _ => True) (fun _ _ _ => (.bool true, [])) (fun acc Y _ => ?_) (fun i g r acc Y hg hi hr _ hY => ?_) () hs trivial ?_).trans rfl
  · obtain ⟨l2, m2, b2, ws, w1, w2, w3⟩ := law74 bs hl h
    have v1 := law70 l2 (mdB m2) b2 ws w2.small (by omega)
    have v2 := law72 l2 (mdB m2) b2 ws w2.small (by omega)
    obtain ⟨hg, _⟩ := matePut_small (b := b2) w2.small (show ws.length ≤ 1048576 by omega)
    have hc := matePut_code (l := l2) (b := b2) (ws := ws)
    generalize (matePut l2 b2 ws).1 = g at *
    generalize (matePut l2 b2 ws).2 = code at *
    have v3 := law73 .own .own g hg
    have v4 := law23 g .own hg
    simp only [Land.c] at w1 v1 v2 v3 v4
    by_cases hcode : code = 1
    · simp [head181a, c181b1, tl181, w1, v1, v2, v3, hcode]
    · have hk := hc.resolve_left hcode
      simp [head181a, c181b1, tl181, w1, v1, v2, v3, v4, hcode, hk]
  · have hw : IntKind.i64.wrap ((i : Int) + 1) = (i : Int) + 1 := i64w (by omega) (by omega)
    obtain ⟨_, hgi⟩ := List.getElem?_eq_some_iff.1 hg
    have hiI : (i : Int) < l.grants.length := by omega
    have hgm := List.mem_of_getElem? hg
    simp [head181a, c181b1, hi, hiI, hgi]
    refine (loop_list x.grants (fun k (_ : Unit) => head181b bs l x b i g k) (fun _ _ => True) (fun _ _ _ => (.bool true, [])) (fun acc Y2 _ => ?_) (fun k y r acc Y2 hy hk hr _ hY2 => ?_) () ?_ trivial ?_).trans rfl
    · simp [head181b, c181b0]
      refine hY () _ trivial ?_
      simp [head181a, hw]
    · have hwk : IntKind.i64.wrap ((k : Int) + 1) = (k : Int) + 1 := i64w (by omega) (by omega)
      obtain ⟨_, hyk⟩ := List.getElem?_eq_some_iff.1 hy
      have hkI : (k : Int) < x.grants.length := by omega
      have hym := List.mem_of_getElem? hy
      cases q1 : sEq y.hold g.hold
      · simp [head181b, c181b0, hk, hkI, hyk, q1]
        refine hY2 () _ trivial ?_
        simp [head181b, hwk]
      · by_cases ht : l.time < g.til
        · obtain ⟨e1, e2⟩ := hap g hgm y hym ((sEq_iff _ _).1 q1) ht
          simp [head181b, c181b0, hk, hkI, hyk, q1, e1, e2]
          refine hY2 () _ trivial ?_
          simp [head181b, hwk]
        · cases q2 : sEq y.berth g.berth
          · simp [head181b, c181b0, hk, hkI, hyk, q1, q2, ht]
            refine hY2 () _ trivial ?_
            simp [head181b, hwk]
          · cases q3 : sEq y.copy g.copy
            · simp [head181b, c181b0, hk, hkI, hyk, q1, q2, q3, ht]
              refine hY2 () _ trivial ?_
              simp [head181b, hwk]
            · simp [head181b, c181b0, hk, hkI, hyk, q1, q2, q3]
              refine hY2 () _ trivial ?_
              simp [head181b, hwk]
    · simp [head181b]
    · unfold big; omega
  · unfold big; omega

theorem land_law (bs : List Int) (h : ListWf Byte bs) : F 181 [.sl .imm 1 (bs.map rowB)] [] = some (.bool true, []) := by
  refine F_run fn181 rfl ?_
  by_cases hb : 1048576 < bs.length
  · have hbI : (1048576 : Int) < bs.length := by omega
    simp [c181_cut, hbI]
  have hbI : ¬ (1048576 : Int) < bs.length := by omega
  have hB : ∀ b ∈ bs, 0 ≤ b ∧ b ≤ 255 := fun b hb => h.all b hb
  obtain ⟨l, b, hm, _, a1, p, hpw, rfl⟩ := law78 bs (by omega) hB
  obtain ⟨t1, t2, t3, t4, t5⟩ := landTake_small (p := p) hm
  have b1 := law76 l (mdB b) p hm.small
  have b2 := law77 l (mdB b) p hm.small
  have c1 := law41 l (mdB b) hm.small
  have c2 := law44 l (mdB b) hm.small
  obtain ⟨d1, d2, d3, d4⟩ := landTick_small hm.small
  have e1 := law23 l (mdB b) hm.small
  have e2 := law24 l (mdB b) hm.small
  have htw := landTake_twice (l := l) (p := p)
  have hok := landTake_ok (l := l) (p := p)
  have hap := @landTake_apart l p
  have htk := landTick_ok (l := l)
  have f4 : ∀ q ∈ (landTake l p).2, q.small := fun q hq => ⟨by rw [t4 q hq]; simp⟩
  have f1 := law73 .own .own _ t1
  have f2 := law75 .own .own _ (by omega) f4
  have f3 := law76 (landTake l p).1 .own p t1
  have g1 := law73 .own .own _ d1
  have g2 := law75 .own .own _ (by omega) d4
  have g3 := law23 (landTick l).1 .own d1
  have g4 := law23 (landTake l p).1 .own t1
  have hmg := hm.grants
  generalize hR : landTake l p = R at *
  generalize hT : landTick l = S at *
  obtain ⟨x, out⟩ := R
  obtain ⟨t, told⟩ := S
  simp only at *
  simp only [Land.c, Parcel.c, hpw, List.map_nil] at a1 b1 b2 c1 c2 e1 e2 f1 f3 g1 g3 g4
  cases hv : landOk l
  · have ho := t5 hv
    subst ho
    rw [hv] at e1 e2
    simp only [List.map_nil] at b1 b2 f2
    simp [c181_cut, hbI, a1, b1, b2, c1, c2, e1, e2, f1, f2, f3, g1, g2]
  · have hx := hok hv
    have hy := htk hv
    have hz := htw hv
    rw [hv] at e1 e2
    rw [hx] at g4
    rw [hy] at g3
    rw [hz] at f3
    simp [c181_cut, hbI, a1, b1, b2, c1, c2, e1, e2, f1, f2, f3, g1, g2, g3, g4]
    refine tail181 bs (by omega) hB l x b (by omega) (by omega) (fun g hg y hy e ht => hap hv hg hy e ht) _ ?_
    simp [head181a]
end Go.Proofs.Ytgdjnflnfeakjaa

namespace Go.Proofs.Ytgdjnflnfeakjaa
open Go Go.RowKit
set_option linter.unusedSimpArgs false

/-- What is frozen lies in this world. -/
def FzIn (fz : List (Nat × Obj)) (w : World) : Prop := ∀ p ∈ fz, p.1 < w.heap.size ∧ w.heap[p.1]? = some p.2

/-- A call that goes in, and comes back as this says. -/
def Ret (P : Program) (f : FuncId) (vs : Array Value) (w : World) (R : Value → World → Prop) : Prop :=
  (callFunc f vs).run P w = .ok (.enter f vs) w ∧ Calls P f vs w fun e w' => ∃ v, e = .returned v ∧ Below w.heap.size w w' ∧ R v w'

theorem Ret.callable {P : Program} {f : FuncId} {vs : Array Value} {w : World} {R R' : Value → World → Prop} (h : Ret P f vs w R) (hr : ∀ v w', Below w.heap.size w w' → R v w' → R' v w') : Callable P f vs w R' := by
  intro o a next Q hnext
  rw [h.1, Oper.upon_enter]
  refine h.2.mono fun e w' he => ?_
  obtain ⟨v, rfl, hb, hR⟩ := he
  exact hnext v w' (hr v w' hb hR)

structure PrimsOk (P : Program) (num : Nat → Option FuncId) (fz : List (Nat × Obj)) : Prop where
  sfx : ∀ f, num 222 = some f → ∀ (s p : ByteArray) (w : World), FzIn fz w → s.size ≤ 9223372036854775807 → Ret P f #[.string s, .string p] w fun v _ => v = .bool (Lib.hasSuffix s.data.toList p.data.toList)
  spl : ∀ f, num 220 = some f → ∀ (s sep : ByteArray) (w : World), FzIn fz w → s.size < 4294967281 → 1 ≤ sep.size → Ret P f #[.string s, .string sep] w fun v w' => v = .slice (some ⟨w.heap.size, 0, none⟩) (splitT s sep).length (splitT s sep).length ∧ ∃ t, w'.heap[w.heap.size]? = some (.cells ((splitT s sep).map Value.string).toArray t (0, 0))
  joi : ∀ f, num 230 = some f → ∀ (a : Option Addr) (c : Nat) (xs : List ByteArray) (sep : ByteArray) (w : World), FzIn fz w → (xs = [] ∨ ∃ b o, a = some ⟨b, o, none⟩ ∧ b < w.heap.size ∧ xs.length ≤ c ∧ ∀ (j : Nat) x, xs[j]? = some x → w.cell? ⟨b, o + j, none⟩ = some (.string x)) →
    xs.length ≤ 140737488355328 → (joinT xs sep).size ≤ 140737488355328 → Ret P f #[.slice a xs.length c, .string sep] w fun v _ => v = .string (joinT xs sep)
  ito : ∀ f, num 231 = some f → ∀ (n : Int) (w : World), FzIn fz w → -9223372036854775808 ≤ n → n ≤ 9223372036854775807 → Ret P f #[.int .i64 n] w fun v _ => v = .string (itoaT n)
  ato : ∀ f, num 221 = some f → ∀ (s : ByteArray) (w : World), FzIn fz w → s.size ≤ 281474976710656 → Ret P f #[.string s] w fun v _ => v = .int .i64 (numT s)

theorem Mem.fzIn {cx : Cx} {h : Nat → Option AO} {ep : Nat} {g : Gh} {w : World} (m : Mem cx h ep g w) : FzIn cx.fz w := fun _ hp => ⟨(m.fz_now hp).1, (m.fz_now hp).2.1⟩

/-- Behind a call that gives back one plain value. -/
theorem post_plain {cx : Cx} {h : Nat → Option AO} {g : Gh} {w w' : World} (m : Mem cx h 0 g w) (hw : cx.w0 = w) (h0 : cx.base = 0) (hb : Below w.heap.size w w') {v : Value} {r : AV} (hr : Cl w' g.I v r (fun _ => False)) (ht : r.isTup = false) :
    ∃ I N S fo, Post cx w' v r [] I N S fo := by
  refine ⟨g.I, g.N, fun _ => False, fun _ _ => False, ⟨?_, h0.symm, m.I_up, m.I_new, m.I_N, m.N_up, m.N_new, fun b h => Nat.lt_of_lt_of_le (m.N_lt b h) hb.size, .one _ _ _ (.one _ _ _ hr (fun _ h => h.elim)) ht, fun k o h => by simp at h, fun _ h => h.elim, fun _ _ _ h => h.elim, fun _ _ _ h => h.elim, fun _ _ _ _ _ h => h.elim⟩⟩
  rw [hw]
  exact ⟨hb.os, hb.tape, hb.output, hb.size, fun b h1 _ => hb.block b h1⟩

/-- Behind a call that gives back a new row of texts. -/
theorem post_texts {cx : Cx} {h : Nat → Option AO} {g : Gh} {w w' : World} (m : Mem cx h 0 g w) (hw : cx.w0 = w) (h0 : cx.base = 0) (hb : Below w.heap.size w w') {xs : List ByteArray} {t : TypeId} (hmax : xs.length ≤ maxLen)
    (hh : w'.heap[w.heap.size]? = some (.cells (xs.map Value.string).toArray t (0, 0))) :
    ∃ I N S fo, Post cx w' (.slice (some ⟨w.heap.size, 0, none⟩) xs.length xs.length) (.sl .own 1 (xs.map fun x => [.str x])) [] I N S fo := by
  have hlt := (Array.getElem?_eq_some_iff.1 hh).1
  have hca : ∀ i j c, cellAt (xs.map fun x => [AV.str x]) i j = some c → ∃ x, xs[i]? = some x ∧ j = 0 ∧ c = .str x := fun i j c hc => by
    obtain ⟨row, h1, h2⟩ := cellAt_some.1 hc
    rw [List.getElem?_map] at h1
    cases hi : xs[i]? with
    | none => rw [hi] at h1; cases h1
    | some x =>
      rw [hi] at h1
      simp only [Option.map_some, Option.some.injEq] at h1
      subst h1
      cases j with
      | zero => exact ⟨x, rfl, rfl, by simpa using h2.symm⟩
      | succ j => simp at h2
  refine ⟨g.I, fun b => g.N b ∨ b = w.heap.size, fun b => b = w.heap.size, fun _ _ => False, ⟨?_, h0.symm, m.I_up, m.I_new, fun b h => .inl (m.I_N b h), fun b h => .inl (m.N_up b h), fun b h => ?_, fun b h => ?_, .one _ _ _ (.one _ _ _ ?_ (fun x h => .inr h)) rfl, fun k o h => by simp at h, fun x h => ?_, fun _ _ _ h => h.elim, fun _ _ _ _ h => h, fun _ _ _ _ _ h => h.elim⟩⟩
  · rw [hw]
    exact ⟨hb.os, hb.tape, hb.output, hb.size, fun b h1 _ => hb.block b h1⟩
  · rcases h with h | h
    · exact m.N_new b h
    · exact .inr (by rw [hw, h]; exact Nat.le_refl _)
  · rcases h with h | h
    · exact Nat.lt_of_lt_of_le (m.N_lt b h) hb.size
    · rw [h]; exact hlt
  · have e : xs.length = (xs.map fun x => [AV.str x]).length := by simp
    rw [e]
    have e2 : (xs.map fun x => [AV.str x]).length = xs.length := by simp
    refine .own 1 _ w.heap.size _ (xs.map Value.string).toArray t (fun i _ => (xs[i]?.map Value.string).getD undef) (fun _ _ _ => False) _ hh (by simp) (by rw [e2]; exact hmax) (by simp) (fun row hr => ?_) (fun i j c hc => ?_) (fun i j c hc => ?_) (fun _ _ _ _ _ _ _ _ _ h => h.elim) (fun _ _ _ _ h => h) (fun x => ?_)
    · obtain ⟨x, _, rfl⟩ := List.mem_map.1 hr; rfl
    · obtain ⟨x, h1, rfl, rfl⟩ := hca i j c hc
      simp [h1]
    · obtain ⟨x, h1, rfl, rfl⟩ := hca i j c hc
      simp only [h1, Option.map_some, Option.getD_some]
      exact .str _ _ (fun _ h => h)
    · constructor
      · exact fun h => .inl h
      · rintro (h | ⟨_, _, _, _, h⟩)
        · exact h
        · exact h.elim
  · subst h
    refine ⟨.inr (by rw [hw]; exact Nat.le_refl _), fun hI => ?_⟩
    have := m.I_lt _ hI
    omega

theorem textsOf_cells : ∀ {rows : List (List AV)} {xs : List ByteArray}, textsOf rows = some xs → xs.length = rows.length ∧ ∀ (j : Nat) x, xs[j]? = some x → cellAt rows j 0 = some (.str x)
  | [], xs, h => by
    simp only [textsOf, Option.some.injEq] at h
    subst h
    exact ⟨rfl, fun j x hx => by simp at hx⟩
  | [] :: _, xs, h => by simp [textsOf] at h
  | (c :: d :: e) :: r, xs, h => by
    cases c <;> simp [textsOf] at h
  | [c] :: r, xs, h => by
    cases c <;> try (simp [textsOf] at h; done)
    rename_i s
    simp only [textsOf] at h
    cases hr : textsOf r with
    | none => rw [hr] at h; cases h
    | some ys =>
      rw [hr] at h
      simp only [Option.some.injEq] at h
      subst h
      obtain ⟨h1, h2⟩ := textsOf_cells hr
      refine ⟨by simp [h1], fun j x hx => ?_⟩
      cases j with
      | zero =>
        simp only [List.getElem?_cons_zero, Option.some.injEq] at hx
        subst hx
        exact cellAt_some.2 ⟨_, rfl, rfl⟩
      | succ j =>
        obtain ⟨row, h3, h4⟩ := cellAt_some.1 (h2 j x (by simpa using hx))
        exact cellAt_some.2 ⟨row, by simpa using h3, h4⟩

theorem prims_contract {P : Program} {num : Nat → Option FuncId} {fz : List (Nat × Obj)} (hp : PrimsOk P num fz) : ∀ k f args objs r outs, num k = some f → prim k args objs = some (r, outs) → Contract P num fz f args objs r outs := by
  intro k f args objs r outs hn h
  cases objs with
  | cons _ _ => cases h
  | nil =>
  replace h : primGo k args = some (r, outs) := h
  intro cx g w vs hP hnum hfz hw0 hbase hh0 hv0 hu m hsz hrel
  subst hP; subst hnum; subst hfz
  have hfi := m.fzIn
  have hbase0 : cx.base = 0 := hbase
  have one : ∀ (c : AV), args = [c] → ∃ v, vs = #[v] ∧ SRel cx.num w cx.R g (startHeap [] 0) 0 v c := fun c hc => by
    subst hc
    have : vs.size = 1 := hsz
    obtain ⟨v, rfl⟩ : ∃ v, vs = #[v] := ⟨vs[0], by apply Array.ext' ; match vs, this with | ⟨[x]⟩, _ => rfl⟩
    exact ⟨v, rfl, hrel 0 v c rfl rfl⟩
  have two : ∀ (c d : AV), args = [c, d] → ∃ v u, vs = #[v, u] ∧ SRel cx.num w cx.R g (startHeap [] 0) 0 v c ∧ SRel cx.num w cx.R g (startHeap [] 0) 0 u d := fun c d hc => by
    subst hc
    have : vs.size = 2 := hsz
    obtain ⟨v, u, rfl⟩ : ∃ v u, vs = #[v, u] := by match vs, this with | ⟨[x, y]⟩, _ => exact ⟨x, y, rfl⟩
    exact ⟨v, u, rfl, hrel 0 v c rfl rfl, hrel 1 u d rfl rfl⟩
  unfold primGo at h
  split at h
  · subst k
    split at h
    case h_2 => cases h
    rename_i s p
    split at h
    case isFalse => cases h
    rename_i hs
    obtain ⟨rfl, rfl⟩ := Prod.mk.inj (Option.some.inj h)
    obtain ⟨v, u, rfl, r1, r2⟩ := two _ _ rfl
    cases r1; cases r2
    refine (hp.sfx f hn s p w hfi hs).callable fun v w' hb hv => ?_
    subst hv
    exact post_plain m hw0 hbase0 hb (.bool _ _ fun _ h => h) rfl
  split at h
  · subst k
    split at h
    case h_2 => cases h
    rename_i s sep
    split at h
    case isFalse => cases h
    rename_i hs
    obtain ⟨rfl, rfl⟩ := Prod.mk.inj (Option.some.inj h)
    obtain ⟨v, u, rfl, r1, r2⟩ := two _ _ rfl
    cases r1; cases r2
    refine (hp.spl f hn s sep w hfi hs.1 hs.2).callable fun v w' hb hv => ?_
    obtain ⟨rfl, t, ht⟩ := hv
    have hlen : (splitT s sep).length = Lib.countB s sep + 1 := Lib.splitB_all sep hs.2 0 _ s rfl
    have hle := Lib.countB_le sep hs.2 s.size s (Nat.le_refl _)
    exact post_texts m hw0 hbase0 hb (by rw [hlen]; unfold maxLen; omega) ht
  split at h
  · subst k
    split at h
    case h_2 => cases h
    rename_i rows sep
    split at h
    case h_2 => cases h
    rename_i xs hx
    split at h
    case isFalse => cases h
    rename_i hs
    obtain ⟨rfl, rfl⟩ := Prod.mk.inj (Option.some.inj h)
    obtain ⟨v, u, rfl, r1, r2⟩ := two _ _ rfl
    obtain ⟨hl, hc⟩ := textsOf_cells hx
    cases r2
    cases r1 with
    | sl _ _ _ _ h1 hm _ _ =>
      have hB := hm rfl
      cases hB with
      | nil _ _ a cap =>
        have : xs = [] := by simpa using hl
        subst this
        refine (hp.joi f hn a cap [] sep w hfi (.inl rfl) hs.1 hs.2).callable fun v w' hb hv => ?_
        subst hv
        exact post_plain m hw0 hbase0 hb (.str _ _ fun _ h => h) rfl
      | sl _ _ _ b o cap us hcap hb' hrow hcell hin =>
        rw [← hl]
        refine (hp.joi f hn (some ⟨b, o, none⟩) cap xs sep w hfi (.inr ⟨b, o, rfl, ?_, by omega, fun j x hj => ?_⟩) hs.1 hs.2).callable fun v w' hb hv => ?_
        · have h3 := m.R_old b hb'
          rw [hw0] at h3
          exact h3.1
        · have h3 := hc j x hj
          have h4 := hcell j 0 _ h3
          have h5 := hin j 0 _ h3
          rw [Nat.mul_one, Nat.add_zero] at h4
          rw [h4]
          generalize us j 0 = uv at h5
          cases h5
          rfl
        · subst hv
          exact post_plain m hw0 hbase0 hb (.str _ _ fun _ h => h) rfl
  split at h
  · subst k
    split at h
    case h_2 => cases h
    rename_i n
    split at h
    case isFalse => cases h
    rename_i hs
    obtain ⟨rfl, rfl⟩ := Prod.mk.inj (Option.some.inj h)
    obtain ⟨v, rfl, r1⟩ := one _ rfl
    cases r1
    refine (hp.ito f hn n w hfi hs.1 hs.2).callable fun v w' hb hv => ?_
    subst hv
    exact post_plain m hw0 hbase0 hb (.str _ _ fun _ h => h) rfl
  split at h
  · subst k
    split at h
    case h_2 => cases h
    rename_i s
    split at h
    case isFalse => cases h
    rename_i hs
    obtain ⟨rfl, rfl⟩ := Prod.mk.inj (Option.some.inj h)
    obtain ⟨v, rfl, r1⟩ := one _ rfl
    cases r1
    refine (hp.ato f hn s w hfi hs).callable fun v w' hb hv => ?_
    subst hv
    exact post_plain m hw0 hbase0 hb (.int _ _ _ fun _ h => h) rfl
  · cases h

/-- A program that calls none of them. -/
theorem primsOk_none {P : Program} {num : Nat → Option FuncId} {fz : List (Nat × Obj)} (h1 : num 222 = none) (h2 : num 220 = none) (h3 : num 230 = none) (h4 : num 231 = none) (h5 : num 221 = none) : PrimsOk P num fz :=
  ⟨fun f h => (by rw [h1] at h; cases h), fun f h => (by rw [h2] at h; cases h), fun f h => (by rw [h3] at h; cases h), fun f h => (by rw [h4] at h; cases h), fun f h => (by rw [h5] at h; cases h)⟩

/-- What is asked of the sorts, comparison by comparison. -/
theorem srtAll_of {P : Program} {num : Nat → Option FuncId} (h : ∀ e ∈ sortTab, ∀ f t fs, num e.1 = some f → num (1000 + e.1) = some t → num kSort = some fs → SortOk P fs f t e.2.1 e.2.2.1 e.2.2.2) : SrtAll P num :=
  fun kl o c sz hm f t fs h1 h2 h3 => h (kl, o, c, sz) (by simpa using hm) f t fs h1 h2 h3
theorem srtAll_none {P : Program} {num : Nat → Option FuncId} (h : num kSort = none) : SrtAll P num := fun _ _ _ _ _ f t fs _ _ h3 => by rw [h] at h3; cases h3
end Go.Proofs.Ytgdjnflnfeakjaa
