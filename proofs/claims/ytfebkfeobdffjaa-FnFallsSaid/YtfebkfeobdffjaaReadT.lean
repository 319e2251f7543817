/- The laws' arguments, read as the program's data. -/
import Derived.Test.YtfebkfeobdffjaaLaw
import Derived.Test.YtfebkfeobdffjaaTy
namespace Go.Proofs.Ytfebkfeobdffjaa
open Go Go.RowKit Go.WideShapes
set_option linter.unusedSimpArgs false

def I64 (n : Int) : Prop := -9223372036854775808 ≤ n ∧ n ≤ 9223372036854775807
theorem i64_wf {n : Int} (h : (Lit.int .i64 n).wf = true) : I64 n := by
  simp [Lit.wf, IntKind.min, IntKind.max, IntKind.signed, IntKind.bits] at h
  unfold I64
  omega

def shWant : List Sh := [.str, .int .i64, .str, .int .i64, .int .i64, .int .i64, .int .i64]
def shRun : List Sh := shWant ++ [.int .i64, .int .i64, .int .i64, .int .i64]
def shAsk : List Sh := [.str, .str, .int .i64, .int .i64]
def shMate : List Sh := [.str, .bool, .int .i64, .bool, .int .i64, .sl shWant, .sl shRun, .sl shAsk, .sl shAsk]
def shParcel : List Sh := [.int .i64, .str, .int .i64, .sl shWant, .str, .str, .int .i64]
def shGrant : List Sh := [.str, .str, .str, .int .i64, .int .i64]
def shPlace : List Sh := [.str, .int .i64, .sl shWant]
def shLand : List Sh := [.int .i64, .sl shGrant, .sl shPlace]
def shWorld : List Sh := shLand ++ [.sl shMate, .sl [.str]]
def shEvent : List Sh := [.int .i64, .int .i64, .int .i64, .sl shWant, .sl [.int .i64]]

structure Want.wf (w : Want) : Prop where
  copy : w.copy.size ≤ maxLen
  hold : w.hold.size ≤ maxLen
  version : I64 w.version
  pull : I64 w.pull
  start : I64 w.start
  dies : I64 w.dies
  grace : I64 w.grace
structure Run.wf (r : Run) : Prop where
  want : r.want.wf
  state : I64 r.state
  left : I64 r.left
  falls : I64 r.falls
  til : I64 r.til
structure Ask.wf (a : Ask) : Prop where
  hold : a.hold.size ≤ maxLen
  copy : a.copy.size ≤ maxLen
  first : I64 a.first
  at_ : I64 a.at_
structure ListWf {α : Type} (p : α → Prop) (xs : List α) : Prop where
  len : xs.length ≤ maxLen
  all : ∀ x ∈ xs, p x
structure Mate.wf (m : Mate) : Prop where
  name : m.name.size ≤ maxLen
  clock : I64 m.clock
  seen : I64 m.seen
  wants : ListWf Want.wf m.wants
  runs : ListWf Run.wf m.runs
  asks : ListWf Ask.wf m.asks
  gives : ListWf Ask.wf m.gives
structure Parcel.wf (p : Parcel) : Prop where
  kind : I64 p.kind
  berth : p.berth.size ≤ maxLen
  seen : I64 p.seen
  wants : ListWf Want.wf p.wants
  hold : p.hold.size ≤ maxLen
  copy : p.copy.size ≤ maxLen
  at_ : I64 p.at_
structure Grant.wf (g : Grant) : Prop where
  hold : g.hold.size ≤ maxLen
  berth : g.berth.size ≤ maxLen
  copy : g.copy.size ≤ maxLen
  at_ : I64 g.at_
  til : I64 g.til
structure Place.wf (p : Place) : Prop where
  berth : p.berth.size ≤ maxLen
  seen : I64 p.seen
  wants : ListWf Want.wf p.wants
structure Land.wf (l : Land) : Prop where
  time : I64 l.time
  grants : ListWf Grant.wf l.grants
  places : ListWf Place.wf l.places
structure Wld.wf (w : Wld) : Prop where
  land : w.land.wf
  mates : ListWf Mate.wf w.mates
  flight : ListWf (fun s : T => s.size ≤ maxLen) w.flight
structure Event.wf (e : Event) : Prop where
  kind : I64 e.kind
  a : I64 e.a
  b : I64 e.b
  wants : ListWf Want.wf e.wants
  rates : ListWf I64 e.rates

theorem fits_str {c : AV} (h : Fits .str c) : ∃ s : T, c = .str s ∧ s.size ≤ maxLen := by simpa only [Fits] using h
theorem fits_int {c : AV} (h : Fits (.int .i64) c) : ∃ n, c = .int .i64 n ∧ I64 n := by
  simp only [Fits] at h
  obtain ⟨n, h1, h2⟩ := h
  exact ⟨n, h1, i64_wf h2⟩
theorem fits_bool {c : AV} (h : Fits .bool c) : ∃ b, c = .bool b := by simpa only [Fits] using h
theorem fits_list {α : Type} {row : List Sh} {cf : α → List AV} {p : α → Prop} (hr : ∀ c, FitsL row c → ∃ x, c = cf x ∧ p x) {c : AV} (h : Fits (.sl row) c) : ∃ xs, c = .sl .bor row.length (xs.map cf) ∧ ListWf p xs := by
  simp only [Fits] at h
  obtain ⟨rows, rfl, hl, ha⟩ := h
  have : ∀ rows : List (List AV), (∀ r ∈ rows, FitsL row r) → ∃ xs : List α, rows = xs.map cf ∧ ∀ x ∈ xs, p x := by
    intro rows
    induction rows with
    | nil => intro _; exact ⟨[], rfl, by simp⟩
    | cons r rows ih =>
      intro h
      obtain ⟨x, h1, h2⟩ := hr r (h r List.mem_cons_self)
      obtain ⟨xs, h3, h4⟩ := ih fun r hr => h r (List.mem_cons_of_mem _ hr)
      exact ⟨x :: xs, by rw [h1, h3]; rfl, fun y hy => by
        rcases List.mem_cons.1 hy with rfl | hy
        · exact h2
        · exact h4 y hy⟩
  obtain ⟨xs, rfl, h2⟩ := this rows ha
  exact ⟨xs, rfl, by simpa using hl, h2⟩
theorem fitsL_nil {c : List AV} (h : FitsL [] c) : c = [] := by
  cases c with
  | nil => rfl
  | cons _ _ => simp [FitsL] at h
theorem fitsL_cons {s : Sh} {ss : List Sh} {c : List AV} (h : FitsL (s :: ss) c) : ∃ d ds, c = d :: ds ∧ Fits s d ∧ FitsL ss ds := by
  cases c with
  | nil => simp [FitsL] at h
  | cons d ds => exact ⟨d, ds, rfl, by simpa [FitsL] using h⟩

theorem want_of {c : List AV} (h : FitsL shWant c) : ∃ w : Want, c = w.c ∧ w.wf := by
  obtain ⟨_, _, rfl, h0, h⟩ := fitsL_cons h
  obtain ⟨_, _, rfl, h1, h⟩ := fitsL_cons h
  obtain ⟨_, _, rfl, h2, h⟩ := fitsL_cons h
  obtain ⟨_, _, rfl, h3, h⟩ := fitsL_cons h
  obtain ⟨_, _, rfl, h4, h⟩ := fitsL_cons h
  obtain ⟨_, _, rfl, h5, h⟩ := fitsL_cons h
  obtain ⟨_, _, rfl, h6, h⟩ := fitsL_cons h
  obtain rfl := fitsL_nil h
  obtain ⟨s, rfl, k0⟩ := fits_str h0
  obtain ⟨n1, rfl, k1⟩ := fits_int h1
  obtain ⟨t, rfl, k2⟩ := fits_str h2
  obtain ⟨n3, rfl, k3⟩ := fits_int h3
  obtain ⟨n4, rfl, k4⟩ := fits_int h4
  obtain ⟨n5, rfl, k5⟩ := fits_int h5
  obtain ⟨n6, rfl, k6⟩ := fits_int h6
  exact ⟨⟨s, n1, t, n3, n4, n5, n6⟩, rfl, k0, k2, k1, k3, k4, k5, k6⟩

theorem run_of {c : List AV} (h : FitsL shRun c) : ∃ r : Run, c = r.c ∧ r.wf := by
  unfold shRun shWant at h
  obtain ⟨_, _, rfl, h0, h⟩ := fitsL_cons h
  obtain ⟨_, _, rfl, h1, h⟩ := fitsL_cons h
  obtain ⟨_, _, rfl, h2, h⟩ := fitsL_cons h
  obtain ⟨_, _, rfl, h3, h⟩ := fitsL_cons h
  obtain ⟨_, _, rfl, h4, h⟩ := fitsL_cons h
  obtain ⟨_, _, rfl, h5, h⟩ := fitsL_cons h
  obtain ⟨_, _, rfl, h6, h⟩ := fitsL_cons h
  obtain ⟨_, _, rfl, h7, h⟩ := fitsL_cons h
  obtain ⟨_, _, rfl, h8, h⟩ := fitsL_cons h
  obtain ⟨_, _, rfl, h9, h⟩ := fitsL_cons h
  obtain ⟨_, _, rfl, h10, h⟩ := fitsL_cons h
  obtain rfl := fitsL_nil h
  obtain ⟨s, rfl, k0⟩ := fits_str h0
  obtain ⟨n1, rfl, k1⟩ := fits_int h1
  obtain ⟨t, rfl, k2⟩ := fits_str h2
  obtain ⟨n3, rfl, k3⟩ := fits_int h3
  obtain ⟨n4, rfl, k4⟩ := fits_int h4
  obtain ⟨n5, rfl, k5⟩ := fits_int h5
  obtain ⟨n6, rfl, k6⟩ := fits_int h6
  obtain ⟨n7, rfl, k7⟩ := fits_int h7
  obtain ⟨n8, rfl, k8⟩ := fits_int h8
  obtain ⟨n9, rfl, k9⟩ := fits_int h9
  obtain ⟨n10, rfl, k10⟩ := fits_int h10
  exact ⟨⟨⟨s, n1, t, n3, n4, n5, n6⟩, n7, n8, n9, n10⟩, rfl, ⟨k0, k2, k1, k3, k4, k5, k6⟩, k7, k8, k9, k10⟩

theorem ask_of {c : List AV} (h : FitsL shAsk c) : ∃ a : Ask, c = a.c ∧ a.wf := by
  obtain ⟨_, _, rfl, h0, h⟩ := fitsL_cons h
  obtain ⟨_, _, rfl, h1, h⟩ := fitsL_cons h
  obtain ⟨_, _, rfl, h2, h⟩ := fitsL_cons h
  obtain ⟨_, _, rfl, h3, h⟩ := fitsL_cons h
  obtain rfl := fitsL_nil h
  obtain ⟨s, rfl, k0⟩ := fits_str h0
  obtain ⟨t, rfl, k1⟩ := fits_str h1
  obtain ⟨n2, rfl, k2⟩ := fits_int h2
  obtain ⟨n3, rfl, k3⟩ := fits_int h3
  exact ⟨⟨s, t, n2, n3⟩, rfl, k0, k1, k2, k3⟩

theorem grant_of {c : List AV} (h : FitsL shGrant c) : ∃ g : Grant, c = g.c ∧ g.wf := by
  obtain ⟨_, _, rfl, h0, h⟩ := fitsL_cons h
  obtain ⟨_, _, rfl, h1, h⟩ := fitsL_cons h
  obtain ⟨_, _, rfl, h2, h⟩ := fitsL_cons h
  obtain ⟨_, _, rfl, h3, h⟩ := fitsL_cons h
  obtain ⟨_, _, rfl, h4, h⟩ := fitsL_cons h
  obtain rfl := fitsL_nil h
  obtain ⟨s, rfl, k0⟩ := fits_str h0
  obtain ⟨t, rfl, k1⟩ := fits_str h1
  obtain ⟨u, rfl, k2⟩ := fits_str h2
  obtain ⟨n3, rfl, k3⟩ := fits_int h3
  obtain ⟨n4, rfl, k4⟩ := fits_int h4
  exact ⟨⟨s, t, u, n3, n4⟩, rfl, k0, k1, k2, k3, k4⟩

theorem mate_of {c : List AV} (h : FitsL shMate c) : ∃ m : Mate, c = m.c .bor ∧ m.wf := by
  obtain ⟨_, _, rfl, h0, h⟩ := fitsL_cons h
  obtain ⟨_, _, rfl, h1, h⟩ := fitsL_cons h
  obtain ⟨_, _, rfl, h2, h⟩ := fitsL_cons h
  obtain ⟨_, _, rfl, h3, h⟩ := fitsL_cons h
  obtain ⟨_, _, rfl, h4, h⟩ := fitsL_cons h
  obtain ⟨_, _, rfl, h5, h⟩ := fitsL_cons h
  obtain ⟨_, _, rfl, h6, h⟩ := fitsL_cons h
  obtain ⟨_, _, rfl, h7, h⟩ := fitsL_cons h
  obtain ⟨_, _, rfl, h8, h⟩ := fitsL_cons h
  obtain rfl := fitsL_nil h
  obtain ⟨s, rfl, k0⟩ := fits_str h0
  obtain ⟨b1, rfl⟩ := fits_bool h1
  obtain ⟨n2, rfl, k2⟩ := fits_int h2
  obtain ⟨b3, rfl⟩ := fits_bool h3
  obtain ⟨n4, rfl, k4⟩ := fits_int h4
  obtain ⟨ws, rfl, k5⟩ := fits_list (fun _ => want_of) h5
  obtain ⟨rs, rfl, k6⟩ := fits_list (fun _ => run_of) h6
  obtain ⟨as, rfl, k7⟩ := fits_list (fun _ => ask_of) h7
  obtain ⟨gs, rfl, k8⟩ := fits_list (fun _ => ask_of) h8
  exact ⟨⟨s, b1, n2, b3, n4, ws, rs, as, gs⟩, rfl, k0, k2, k4, k5, k6, k7, k8⟩

theorem parcel_of {c : List AV} (h : FitsL shParcel c) : ∃ p : Parcel, c = p.c .bor ∧ p.wf := by
  obtain ⟨_, _, rfl, h0, h⟩ := fitsL_cons h
  obtain ⟨_, _, rfl, h1, h⟩ := fitsL_cons h
  obtain ⟨_, _, rfl, h2, h⟩ := fitsL_cons h
  obtain ⟨_, _, rfl, h3, h⟩ := fitsL_cons h
  obtain ⟨_, _, rfl, h4, h⟩ := fitsL_cons h
  obtain ⟨_, _, rfl, h5, h⟩ := fitsL_cons h
  obtain ⟨_, _, rfl, h6, h⟩ := fitsL_cons h
  obtain rfl := fitsL_nil h
  obtain ⟨n0, rfl, k0⟩ := fits_int h0
  obtain ⟨s, rfl, k1⟩ := fits_str h1
  obtain ⟨n2, rfl, k2⟩ := fits_int h2
  obtain ⟨ws, rfl, k3⟩ := fits_list (fun _ => want_of) h3
  obtain ⟨t, rfl, k4⟩ := fits_str h4
  obtain ⟨u, rfl, k5⟩ := fits_str h5
  obtain ⟨n6, rfl, k6⟩ := fits_int h6
  exact ⟨⟨n0, s, n2, ws, t, u, n6⟩, rfl, k0, k1, k2, k3, k4, k5, k6⟩

theorem place_of {c : List AV} (h : FitsL shPlace c) : ∃ p : Place, c = p.c .bor ∧ p.wf := by
  obtain ⟨_, _, rfl, h0, h⟩ := fitsL_cons h
  obtain ⟨_, _, rfl, h1, h⟩ := fitsL_cons h
  obtain ⟨_, _, rfl, h2, h⟩ := fitsL_cons h
  obtain rfl := fitsL_nil h
  obtain ⟨s, rfl, k0⟩ := fits_str h0
  obtain ⟨n1, rfl, k1⟩ := fits_int h1
  obtain ⟨ws, rfl, k2⟩ := fits_list (fun _ => want_of) h2
  exact ⟨⟨s, n1, ws⟩, rfl, k0, k1, k2⟩

theorem land_of {c : List AV} (h : FitsL shLand c) : ∃ l : Land, c = l.c .bor .bor ∧ l.wf := by
  obtain ⟨_, _, rfl, h0, h⟩ := fitsL_cons h
  obtain ⟨_, _, rfl, h1, h⟩ := fitsL_cons h
  obtain ⟨_, _, rfl, h2, h⟩ := fitsL_cons h
  obtain rfl := fitsL_nil h
  obtain ⟨n0, rfl, k0⟩ := fits_int h0
  obtain ⟨gs, rfl, k1⟩ := fits_list (fun _ => grant_of) h1
  obtain ⟨ps, rfl, k2⟩ := fits_list (fun _ => place_of) h2
  exact ⟨⟨n0, gs, ps⟩, rfl, k0, k1, k2⟩

theorem str1_of {c : List AV} (h : FitsL [.str] c) : ∃ s : T, c = [.str s] ∧ s.size ≤ maxLen := by
  obtain ⟨_, _, rfl, h0, h⟩ := fitsL_cons h
  obtain rfl := fitsL_nil h
  obtain ⟨s, rfl, k0⟩ := fits_str h0
  exact ⟨s, rfl, k0⟩
theorem int1_of {c : List AV} (h : FitsL [.int .i64] c) : ∃ n, c = [.int .i64 n] ∧ I64 n := by
  obtain ⟨_, _, rfl, h0, h⟩ := fitsL_cons h
  obtain rfl := fitsL_nil h
  obtain ⟨n, rfl, k0⟩ := fits_int h0
  exact ⟨n, rfl, k0⟩

abbrev rowB (b : Int) : List AV := [.int .u8 b]
def Byte (n : Int) : Prop := 0 ≤ n ∧ n ≤ 255
theorem byte1_of {c : List AV} (h : FitsL [.int .u8] c) : ∃ n, c = rowB n ∧ Byte n := by
  obtain ⟨_, _, rfl, h0, h⟩ := fitsL_cons h
  obtain rfl := fitsL_nil h
  simp only [Fits] at h0
  obtain ⟨n, rfl, hw⟩ := h0
  refine ⟨n, rfl, ?_⟩
  simp [Lit.wf, IntKind.min, IntKind.max, IntKind.signed, IntKind.bits] at hw
  unfold Byte
  omega

theorem world_of {c : List AV} (h : FitsL shWorld c) : ∃ w : Wld, c = w.c .bor .bor ∧ w.wf := by
  unfold shWorld shLand at h
  obtain ⟨_, _, rfl, h0, h⟩ := fitsL_cons h
  obtain ⟨_, _, rfl, h1, h⟩ := fitsL_cons h
  obtain ⟨_, _, rfl, h2, h⟩ := fitsL_cons h
  obtain ⟨_, _, rfl, h3, h⟩ := fitsL_cons h
  obtain ⟨_, _, rfl, h4, h⟩ := fitsL_cons h
  obtain rfl := fitsL_nil h
  obtain ⟨n0, rfl, k0⟩ := fits_int h0
  obtain ⟨gs, rfl, k1⟩ := fits_list (fun _ => grant_of) h1
  obtain ⟨ps, rfl, k2⟩ := fits_list (fun _ => place_of) h2
  obtain ⟨ms, rfl, k3⟩ := fits_list (fun _ => mate_of) h3
  obtain ⟨fs, rfl, k4⟩ := fits_list (fun _ => str1_of) h4
  exact ⟨⟨⟨n0, gs, ps⟩, ms, fs⟩, rfl, ⟨k0, k1, k2⟩, k3, k4⟩

theorem event_of {c : List AV} (h : FitsL shEvent c) : ∃ e : Event, c = e.c .bor ∧ e.wf := by
  obtain ⟨_, _, rfl, h0, h⟩ := fitsL_cons h
  obtain ⟨_, _, rfl, h1, h⟩ := fitsL_cons h
  obtain ⟨_, _, rfl, h2, h⟩ := fitsL_cons h
  obtain ⟨_, _, rfl, h3, h⟩ := fitsL_cons h
  obtain ⟨_, _, rfl, h4, h⟩ := fitsL_cons h
  obtain rfl := fitsL_nil h
  obtain ⟨n0, rfl, k0⟩ := fits_int h0
  obtain ⟨n1, rfl, k1⟩ := fits_int h1
  obtain ⟨n2, rfl, k2⟩ := fits_int h2
  obtain ⟨ws, rfl, k3⟩ := fits_list (fun _ => want_of) h3
  obtain ⟨rs, rfl, k4⟩ := fits_list (fun _ => int1_of) h4
  exact ⟨⟨n0, n1, n2, ws, rs⟩, rfl, k0, k1, k2, k3, k4⟩

theorem arg_of_slice {H : Type} {enc : TypeId × Value → H} {P : Program} {num : Nat → Option FuncId} {W : World} {r : Reach} {b0 base : Nat} {spare : Nat → Bool} {held : Bool} {t : TypeId} {v : Value} {d : DataW H} {ps : List MemPlace} {e : TypeId} (ht : P.underlying t = some (.slice e)) {k : Nat} {row : List Sh} (hs : shOf P k t = some [.sl row]) (hval : Value.okWide P W r b0 t v) (hd : DataW.Trod enc P W base spare held t v d ps) :
    ∃ c, Fits (.sl row) c ∧ ArgRel num W v c := by
  obtain ⟨xs, h1, h2, h3⟩ := arg_slice (num := num) ht hs hval hd
  exact ⟨_, by simp only [Fits]; exact ⟨xs, rfl, h2, h3⟩, h1⟩

theorem arg_bool {H : Type} {enc : TypeId × Value → H} {P : Program} {num : Nat → Option FuncId} {W : World} {r : Reach} {b0 base : Nat} {spare : Nat → Bool} {held : Bool} {t : TypeId} {v : Value} {d : DataW H} {ps : List MemPlace} (ht : P.underlying t = some .bool) (hval : Value.okWide P W r b0 t v) (hd : DataW.Trod enc P W base spare held t v d ps) : ∃ b, ArgRel num W v (.bool b) := by
  obtain ⟨b, rfl⟩ := okWide_bool ht hval
  exact ⟨b, .bool b⟩

/-- What a law promises, to the program's own call. -/
theorem tied_lim {P' : Program} {num : Nat → Option FuncId} {p : CProg} (t : Tied P' num p) {k : Nat} {f : FuncId} {args : List AV} {r : AV × List (Option AO)} (hn : num k = some f) (h : p.lim k args [] = some r) : Contract P' num f args [] r.1 r.2 := by
  obtain ⟨d, hd⟩ := lim_ev.1 h
  exact t.call d k f args [] r.1 r.2 hn (hd d (Nat.le_refl _))
end Go.Proofs.Ytfebkfeobdffjaa
