/- The program's data as plain values, and their cells; texts' order; numbers' wrap. -/
import Derived.Test.YtfebkfeobdffjaaSim
import Derived.Test.YtfebkfeobdffjaaCode
import Derived.WalkKit
import Derived.ProofKit
namespace Go.Proofs.Ytfebkfeobdffjaa
open Go
set_option linter.unusedSimpArgs false

noncomputable def F : Callee := P.lim

theorem F_run {k : Nat} {c : CFn} {args : List AV} {objs : List AO} {r : AV × List (Option AO)} (hc : P.fn k = some c) (hl : Nat.ble args.length c.nt = true)
    (h : fin c.res objs.length (X F [.code c.body] (.normal, ⟨startSlots args 0, startHeap objs 0, 0, objs.length, objs.length⟩)) = some r) : F k args objs = some r := lim_run hc (Nat.le_of_ble_eq_true hl) h

/-! ### Texts -/
theorem sEq_iff (x y : ByteArray) : sEq x y = true ↔ x = y := by
  unfold sEq
  rw [ByteArray.toList_eq, ByteArray.toList_eq, beq_iff_eq]
  constructor
  · intro h
    cases x; cases y
    congr
    exact Array.ext' h
  · rintro rfl; rfl

theorem bytesLess_eq : ∀ (x y : List UInt8), Op.bytesLess x y = decide (x < y)
  | [], [] => by simp [Op.bytesLess]
  | _ :: _, [] => by simp [Op.bytesLess]
  | [], _ :: _ => by simp [Op.bytesLess]
  | a :: x, b :: y => by
    rw [Op.bytesLess, bytesLess_eq x y]
    simp only [List.cons_lt_cons_iff]
    by_cases h1 : a < b <;> by_cases h2 : a = b <;> by_cases h3 : x < y <;> simp [h1, h2, h3]

theorem sLt_iff (x y : ByteArray) : sLt x y = true ↔ x.data.toList < y.data.toList := by
  unfold sLt
  rw [ByteArray.toList_eq, ByteArray.toList_eq, bytesLess_eq, decide_eq_true_eq]

theorem sLt_irrefl (x : ByteArray) : sLt x x = false := by
  rw [← Bool.not_eq_true, sLt_iff]
  exact List.lt_irrefl _

theorem sLt_trans {x y z : ByteArray} (h : sLt x y = true) (k : sLt y z = true) : sLt x z = true := by
  rw [sLt_iff] at *
  exact List.lt_trans h k

theorem sLt_total {x y : ByteArray} (h : sLt x y = false) (k : sLt y x = false) : x = y := by
  rw [← Bool.not_eq_true, sLt_iff] at h k
  have := List.le_antisymm (List.not_lt.1 h) (List.not_lt.1 k)
  cases x; cases y
  congr
  exact (Array.ext' this).symm

theorem sLt_asymm {x y : ByteArray} (h : sLt x y = true) : sLt y x = false := by
  cases k : sLt y x with
  | false => rfl
  | true => have := sLt_trans h k; rw [sLt_irrefl] at this; cases this

theorem sLt_ne {x y : ByteArray} (h : sLt x y = true) : x ≠ y := by
  rintro rfl
  rw [sLt_irrefl] at h
  cases h

@[simp] theorem sEq_self (x : ByteArray) : sEq x x = true := (sEq_iff x x).2 rfl
theorem sEq_ne {x y : ByteArray} (h : x ≠ y) : sEq x y = false := by
  rw [← Bool.not_eq_true, sEq_iff]; exact h
theorem sEq_comm (x y : ByteArray) : sEq x y = sEq y x := by
  by_cases h : x = y
  · subst h; rfl
  · rw [sEq_ne h, sEq_ne (Ne.symm h)]

abbrev T := ByteArray

structure Want where
  copy : T
  version : Int
  hold : T
  pull : Int
  start : Int
  dies : Int
  grace : Int

structure Run where
  want : Want
  state : Int
  left : Int
  falls : Int
  til : Int

structure Ask where
  hold : T
  copy : T
  first : Int
  at_ : Int

structure Mate where
  name : T
  up : Bool
  clock : Int
  known : Bool
  seen : Int
  wants : List Want
  runs : List Run
  asks : List Ask
  gives : List Ask

structure Parcel where
  kind : Int
  berth : T
  seen : Int
  wants : List Want
  hold : T
  copy : T
  at_ : Int

structure Grant where
  hold : T
  berth : T
  copy : T
  at_ : Int
  til : Int

structure Place where
  berth : T
  seen : Int
  wants : List Want

structure Land where
  time : Int
  grants : List Grant
  places : List Place

structure Wld where
  land : Land
  mates : List Mate
  flight : List T

structure Event where
  kind : Int
  a : Int
  b : Int
  wants : List Want
  rates : List Int

def Want.c (w : Want) : List AV := [.str w.copy, .int .i64 w.version, .str w.hold, .int .i64 w.pull, .int .i64 w.start, .int .i64 w.dies, .int .i64 w.grace]
def Run.c (r : Run) : List AV := [.str r.want.copy, .int .i64 r.want.version, .str r.want.hold, .int .i64 r.want.pull, .int .i64 r.want.start, .int .i64 r.want.dies, .int .i64 r.want.grace, .int .i64 r.state, .int .i64 r.left, .int .i64 r.falls, .int .i64 r.til]
def Ask.c (a : Ask) : List AV := [.str a.hold, .str a.copy, .int .i64 a.first, .int .i64 a.at_]
def Mate.c (m : Md) (x : Mate) : List AV := [.str x.name, .bool x.up, .int .i64 x.clock, .bool x.known, .int .i64 x.seen, .sl m 7 (x.wants.map Want.c), .sl m 11 (x.runs.map Run.c), .sl m 4 (x.asks.map Ask.c), .sl m 4 (x.gives.map Ask.c)]
def Parcel.c (m : Md) (p : Parcel) : List AV := [.int .i64 p.kind, .str p.berth, .int .i64 p.seen, .sl m 7 (p.wants.map Want.c), .str p.hold, .str p.copy, .int .i64 p.at_]
def Grant.c (g : Grant) : List AV := [.str g.hold, .str g.berth, .str g.copy, .int .i64 g.at_, .int .i64 g.til]
def Place.c (m : Md) (p : Place) : List AV := [.str p.berth, .int .i64 p.seen, .sl m 7 (p.wants.map Want.c)]
def Land.c (m m' : Md) (l : Land) : List AV := [.int .i64 l.time, .sl m 5 (l.grants.map Grant.c), .sl m 3 (l.places.map (Place.c m'))]
def Wld.c (m m' : Md) (w : Wld) : List AV := [.int .i64 w.land.time, .sl m 5 (w.land.grants.map Grant.c), .sl m 3 (w.land.places.map (Place.c m')), .sl m 9 (w.mates.map (Mate.c m')), .sl m 1 (w.flight.map fun s => [.str s])]
def Event.c (m : Md) (e : Event) : List AV := [.int .i64 e.kind, .int .i64 e.a, .int .i64 e.b, .sl m 7 (e.wants.map Want.c), .sl m 1 (e.rates.map fun n => [.int .i64 n])]
attribute [simp] Want.c Run.c Ask.c Mate.c Parcel.c Grant.c Place.c Land.c Wld.c Event.c
@[simp] theorem Want.eta (w : Want) : (⟨w.copy, w.version, w.hold, w.pull, w.start, w.dies, w.grace⟩ : Want) = w := rfl
@[simp] theorem Run.eta (r : Run) : (⟨r.want, r.state, r.left, r.falls, r.til⟩ : Run) = r := rfl
@[simp] theorem Ask.eta (a : Ask) : (⟨a.hold, a.copy, a.first, a.at_⟩ : Ask) = a := rfl
@[simp] theorem Grant.eta (g : Grant) : (⟨g.hold, g.berth, g.copy, g.at_, g.til⟩ : Grant) = g := rfl
end Go.Proofs.Ytfebkfeobdffjaa
