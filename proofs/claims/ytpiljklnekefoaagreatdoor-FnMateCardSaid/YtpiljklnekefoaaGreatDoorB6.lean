/- Layer 7: what is sent, as a text. · What is valid, said of lists as wholes. · The laws' own helpers, on wants: copies, sizes, comparison with the same. · The laws' own helpers, on runs. · The laws' own helpers: marks. · The laws' own helpers: marks on runs. · The laws' own helpers, on asks and mates. · The laws' own helpers: sizes only go down. · The laws' own helpers: marks on mates. · The laws' own helpers, on parcels. · Layer 7: a parcel's text: the plain function; the program's. · A text cut at a byte (spec.l7Cut), a word of a row (spec.l7At), a short number (spec.l7Number): what they answer. · spec.MateRead: a text read loosely, written again, compared. · impl.MateRead: its law. · A parcel's text, read: the reference's way and the program's come to the same. · The laws' own equalities, at one thing and itself. · Draws: parcels, their texts, wants and runs. · Layer 6: the book's copy and its tick. · Ordered lists: an element put in its place; what sorting does to a list and one more. · The laws' own helpers, on books. · The laws' own helpers: marks on books and on lists of parcels. · Layer 6: what a berth is to run is put into the book. · The book: what a berth wants, who holds what (spec.l6Grant, spec.l6Wants, impl.wantOf). · The book takes an ask (spec.l6Asked, spec.MateLandTake). · Layer 4: what a mate takes. · Asks put in their place (spec.l4Set, impl.putAsk). · A mate's runs have their tick (spec.l4Lives). · A mate asks for what has to be asked for (spec.l4Asks). · A mate's tick (spec.MateTick). -/
import Derived.Test.YtpiljklnekefoaaGreatDoorB5
import Derived.IntWalk
namespace Go.Proofs.YtpiljklnekefoaaGreatDoor
open Go
set_option linter.unusedSimpArgs false
set_option maxRecDepth 100000

def starOr (h : T) : T := if sEq h ⟨#[]⟩ then ⟨#[42]⟩ else h
def formWant (w : Want) : T := (⟨#[119, 97, 110, 116, 32]⟩ : T) ++ w.copy ++ (⟨#[32]⟩ : T) ++ dec w.version.toNat ++ (⟨#[32]⟩ : T) ++ starOr w.hold ++ (⟨#[32]⟩ : T) ++ dec w.pull.toNat ++ (⟨#[32]⟩ : T) ++ dec w.start.toNat ++ (⟨#[32]⟩ : T) ++ dec w.dies.toNat ++ (⟨#[32]⟩ : T) ++ dec w.grace.toNat ++ (⟨#[10]⟩ : T)

theorem law140' (n : Int) (h0 : 0 ≤ n) (hn : n ≤ 1000000) : F 140 [.int .i64 n] [] = some (.str (dec n.toNat), []) ∧ (dec n.toNat).size ≤ 7 := by
  have h := law140 n.toNat (by omega)
  rw [Int.toNat_of_nonneg h0] at h
  exact ⟨h, dec_size 6 n.toNat (by omega)⟩

theorem starOr_size {h : T} (k : h.size ≤ 20) : (starOr h).size ≤ 20 := by
  unfold starOr
  split
  · show (1 : Nat) ≤ 20; omega
  · exact k

structure Want.fits (w : Want) : Prop where
  copy : w.copy.size ≤ 20
  hold : w.hold.size ≤ 20
  version : 0 ≤ w.version ∧ w.version ≤ 1000000
  pull : 0 ≤ w.pull ∧ w.pull ≤ 1000000
  start : 0 ≤ w.start ∧ w.start ≤ 1000000
  dies : 0 ≤ w.dies ∧ w.dies ≤ 1000000
  grace : 0 ≤ w.grace ∧ w.grace ≤ 1000000

end Go.Proofs.YtpiljklnekefoaaGreatDoor

namespace Go.Proofs.YtpiljklnekefoaaGreatDoor
open Go
set_option linter.unusedSimpArgs false

def Asc {α : Type} (key : α → T) (xs : List α) : Prop := xs.Pairwise fun a b => sLt (key a) (key b) = true

def ascL {α : Type} (key : α → T) (pre : List α) (x : α) : Bool := match pre.getLast? with
  | none => true
  | some p => sLt (key p) (key x)

theorem asc_snoc {α : Type} (key : α → T) (pre : List α) (x : α) (h : Asc key pre) : ascL key pre x = true ↔ Asc key (pre ++ [x]) := by
  unfold Asc at *
  unfold ascL
  rw [List.pairwise_append]
  rcases List.eq_nil_or_concat pre with rfl | ⟨l, p, rfl⟩
  · simp
  · simp only [List.concat_eq_append, List.getLast?_append, List.getLast?_singleton, Option.some_or] at h ⊢
    constructor
    · intro hp
      refine ⟨h, List.pairwise_singleton _ _, fun a ha b hb => ?_⟩
      rw [List.mem_singleton.1 hb]
      rcases List.mem_append.1 ha with ha | ha
      · exact sLt_trans ((List.pairwise_append.1 h).2.2 a ha p (List.mem_singleton.2 rfl)) hp
      · rw [List.mem_singleton.1 ha]; exact hp
    · exact fun ⟨_, _, k⟩ => k p (List.mem_append_right _ (List.mem_singleton.2 rfl)) x (List.mem_singleton.2 rfl)

theorem ascR_eq (pre : List Run) (r : Run) : ascR pre r = ascL (fun x : Run => x.want.copy) pre r := by unfold ascR ascL; cases pre.getLast? <;> rfl
theorem ascA_eq (pre : List Ask) (r : Ask) : ascA pre r = ascL (fun x : Ask => x.hold) pre r := by unfold ascA ascL; cases pre.getLast? <;> rfl
theorem ascW_eq (pre : List Want) (r : Want) : ascW pre r = ascL (fun x : Want => x.copy) pre r := by unfold ascW ascL; cases pre.getLast? <;> rfl
theorem Asc.left {α : Type} {key : α → T} {a b : List α} (h : Asc key (a ++ b)) : Asc key a := (List.pairwise_append.1 h).1
theorem Asc.right {α : Type} {key : α → T} {a b : List α} (h : Asc key (a ++ b)) : Asc key b := (List.pairwise_append.1 h).2.1
theorem Asc.nil {α : Type} (key : α → T) : Asc key [] := List.Pairwise.nil

theorem runsGo_iff (c : Int) : ∀ (rs pre : List Run), Asc (·.want.copy) pre → (runsGo c pre rs = true ↔ (∀ r ∈ rs, runOk r c = true) ∧ Asc (·.want.copy) (pre ++ rs))
  | [], pre, h => by simp [runsGo, h]
  | r :: rs, pre, h => by
    have e := asc_snoc (fun x : Run => x.want.copy) pre r h
    rw [← ascR_eq] at e
    simp only [runsGo, Bool.and_eq_true]
    constructor
    · rintro ⟨h1, h2, h3⟩
      have h4 := e.1 h2
      obtain ⟨h5, h6⟩ := (runsGo_iff c rs (pre ++ [r]) h4).1 h3
      exact ⟨fun x hx => (List.mem_cons.1 hx).elim (fun q => q ▸ h1) (h5 x), by simpa using h6⟩
    · rintro ⟨h1, h2⟩
      have h3 : Asc (fun x : Run => x.want.copy) ((pre ++ [r]) ++ rs) := by simpa using h2
      exact ⟨h1 r List.mem_cons_self, e.2 h3.left, (runsGo_iff c rs (pre ++ [r]) h3.left).2 ⟨fun x hx => h1 x (List.mem_cons_of_mem _ hx), h3⟩⟩

theorem runsOk_iff (rs : List Run) (c : Int) : runsOk rs c = true ↔ rs.length ≤ 20 ∧ (∀ r ∈ rs, runOk r c = true) ∧ Asc (·.want.copy) rs := by
  simp only [runsOk, Bool.and_eq_true, decide_eq_true_eq]
  rw [runsGo_iff c rs [] (Asc.nil _)]
  rfl

theorem asksGo_iff (c : Int) : ∀ (l pre : List Ask), Asc (·.hold) pre → (asksGo c pre l = true ↔ (∀ r ∈ l, askOk c r = true) ∧ Asc (·.hold) (pre ++ l))
  | [], pre, h => by simp [asksGo, h]
  | r :: rs, pre, h => by
    have e := asc_snoc (fun x : Ask => x.hold) pre r h
    rw [← ascA_eq] at e
    simp only [asksGo, Bool.and_eq_true]
    constructor
    · rintro ⟨h1, h2, h3⟩
      have h4 := e.1 h2
      obtain ⟨h5, h6⟩ := (asksGo_iff c rs (pre ++ [r]) h4).1 h3
      exact ⟨fun x hx => (List.mem_cons.1 hx).elim (fun q => q ▸ h1) (h5 x), by simpa using h6⟩
    · rintro ⟨h1, h2⟩
      have h3 : Asc (fun x : Ask => x.hold) ((pre ++ [r]) ++ rs) := by simpa using h2
      exact ⟨h1 r List.mem_cons_self, e.2 h3.left, (asksGo_iff c rs (pre ++ [r]) h3.left).2 ⟨fun x hx => h1 x (List.mem_cons_of_mem _ hx), h3⟩⟩

theorem asksOk_iff (l : List Ask) (c : Int) : asksOk l c = true ↔ l.length ≤ 40 ∧ (∀ r ∈ l, askOk c r = true) ∧ Asc (·.hold) l := by
  simp only [asksOk, Bool.and_eq_true, decide_eq_true_eq]
  rw [asksGo_iff c l [] (Asc.nil _)]
  rfl

def Apart (ws : List Want) : Prop := ws.Pairwise fun a b => sEq b.hold ⟨#[]⟩ = true ∨ sEq a.hold b.hold = false

theorem fresh_snoc (pre : List Want) (w : Want) (h : Apart pre) : freshW pre w = true ↔ Apart (pre ++ [w]) := by
  unfold Apart at *
  rw [List.pairwise_append]
  simp only [freshW, heldB, Bool.or_eq_true, Bool.not_eq_true', List.any_eq_false, Bool.not_eq_true]
  constructor
  · rintro (h1 | h1)
    · exact ⟨h, List.pairwise_singleton _ _, fun a _ b hb => by rw [List.mem_singleton.1 hb]; exact .inl h1⟩
    · exact ⟨h, List.pairwise_singleton _ _, fun a ha b hb => by rw [List.mem_singleton.1 hb]; exact .inr (h1 a ha)⟩
  · rintro ⟨_, _, k⟩
    by_cases e : sEq w.hold ⟨#[]⟩ = true
    · exact .inl e
    · exact .inr fun a ha => (k a ha w (List.mem_singleton.2 rfl)).resolve_left e

theorem wantsGo_iff : ∀ (l pre : List Want), Asc (·.copy) pre → Apart pre → (wantsGo pre l = true ↔ (∀ r ∈ l, wantOk r = true) ∧ Asc (·.copy) (pre ++ l) ∧ Apart (pre ++ l))
  | [], pre, h, k => by simp [wantsGo, h, k]
  | r :: rs, pre, h, k => by
    have e := asc_snoc (fun x : Want => x.copy) pre r h
    rw [← ascW_eq] at e
    have e2 := fresh_snoc pre r k
    simp only [wantsGo, Bool.and_eq_true]
    constructor
    · rintro ⟨h1, h2, h3, h7⟩
      have h4 := e.1 h2
      obtain ⟨h5, h6, h8⟩ := (wantsGo_iff rs (pre ++ [r]) h4 (e2.1 h3)).1 h7
      exact ⟨fun x hx => (List.mem_cons.1 hx).elim (fun q => q ▸ h1) (h5 x), by simpa using h6, by simpa using h8⟩
    · rintro ⟨h1, h2, h4⟩
      have h3 : Asc (fun x : Want => x.copy) ((pre ++ [r]) ++ rs) := by simpa using h2
      have h5 : Apart ((pre ++ [r]) ++ rs) := by simpa using h4
      have h6 : Apart (pre ++ [r]) := (List.pairwise_append.1 h5).1
      exact ⟨h1 r List.mem_cons_self, e.2 h3.left, e2.2 h6, (wantsGo_iff rs (pre ++ [r]) h3.left h6).2 ⟨fun x hx => h1 x (List.mem_cons_of_mem _ hx), h3, h5⟩⟩

theorem wantsOk_iff (ws : List Want) : wantsOk ws = true ↔ ws.length ≤ 10 ∧ (∀ w ∈ ws, wantOk w = true) ∧ Asc (·.copy) ws ∧ Apart ws := by
  simp only [wantsOk, Bool.and_eq_true, decide_eq_true_eq]
  rw [wantsGo_iff ws [] (Asc.nil _) List.Pairwise.nil]
  rfl

theorem isName_nil : isName ⟨#[]⟩ = false := by decide

theorem mateParts_iff (m : Mate) : mateParts m = true ↔ isName m.name = true ∧ inR m.clock 0 1000000 = true ∧ inR m.seen 0 1000000 = true ∧ wantsOk m.wants = true ∧ (m.known = true ∨ m.wants = []) ∧ runsOk m.runs m.clock = true ∧ asksOk m.asks m.clock = true ∧ asksOk m.gives m.clock = true := by
  simp only [mateParts, Bool.and_eq_true, Bool.or_eq_true, List.isEmpty_iff]

theorem mateValid_iff (m : Mate) : mateValid m = true ↔ mateParts m = true ∧ apartGo m.gives m.asks = true ∧ (m.up = true ∨ mateDown m = true) := by
  simp only [mateValid, Bool.and_eq_true, Bool.or_eq_true]

theorem asksOk_nil (c : Int) : asksOk [] c = true := by simp [asksOk, asksGo]
theorem wantsOk_nil : wantsOk [] = true := by simp [wantsOk, wantsGo]

theorem fallRun_ok {b : Bool} {r r' : Run} {c : Int} (h : runOk r c = true) (e : fallRun b r = some r') : runOk r' c = true ∧ r'.want = r.want ∧ (alive r' || !sEq r'.want.hold ⟨#[]⟩) = true ∧ alive r' = !b ∧ (b = false → r' = r ∧ alive r = true) := by
  unfold fallRun at e
  split at e
  case isFalse => cases e
  rename_i ha
  cases b
  · simp only [Bool.false_eq_true, if_false, Option.some.injEq] at e
    subst e
    exact ⟨h, rfl, by simp [ha], by simp [ha], fun _ => ⟨rfl, ha⟩⟩
  · simp only [if_true] at e
    split at e
    · cases e
    · rename_i hh
      simp only [Option.some.injEq] at e
      subst e
      have hh' : sEq r.want.hold ⟨#[]⟩ = false := by simpa using hh
      refine ⟨?_, rfl, by simp [hh'], by simp [alive, aliveS], fun h => by cases h⟩
      simp only [runOk, Bool.and_eq_true] at h ⊢
      obtain ⟨h1, h2, h3, h4, h5, h6, h7, h8⟩ := h
      exact ⟨h1, by simp [inR], by simp [inR], by simp, h5, h6, h7, by simp [alive, aliveS]⟩

theorem fall_valid {m : Mate} (b : Bool) (h : mateValid m = true) : mateValid (mateFall m b) = true := by
  obtain ⟨h1, h2, h3⟩ := (mateValid_iff m).1 h
  obtain ⟨p1, p2, p3, p4, p5, p6, p7, p8⟩ := (mateParts_iff m).1 h1
  obtain ⟨r1, r2, r3⟩ := (runsOk_iff _ _).1 p6
  unfold mateFall
  rw [if_pos h]
  refine (mateValid_iff _).2 ⟨(mateParts_iff _).2 ⟨p1, p2, by simp [Mate.zero, inR], wantsOk_nil, .inr rfl, (runsOk_iff _ _).2 ⟨?_, ?_, ?_⟩, asksOk_nil _, asksOk_nil _⟩, by simp [apartGo, Mate.zero], .inr ?_⟩
  · exact Nat.le_trans (List.length_filterMap_le _ _) r1
  · intro r hr
    obtain ⟨r0, k1, k2⟩ := List.mem_filterMap.1 hr
    exact (fallRun_ok (r2 r0 k1) k2).1
  · refine List.Pairwise.filterMap _ (fun a b' hab x hx y hy => ?_) r3
    · have hx' := hx
      have hy' := hy
      have e : ∀ {r r' : Run}, fallRun b r = some r' → r'.want = r.want := fun {r r'} e => by
        unfold fallRun at e
        split at e
        · split at e
          · split at e
            · cases e
            · rw [← Option.some.inj e]
          · rw [← Option.some.inj e]
        · cases e
      simp only at hab ⊢
      rw [e hx, e hy]; exact hab
  · simp only [mateDown, Mate.zero, Bool.not_false, List.isEmpty_nil, beq_self_eq_true, Bool.true_and, downRuns, List.all_eq_true]
    intro r hr
    obtain ⟨r0, k1, k2⟩ := List.mem_filterMap.1 hr
    exact (fallRun_ok (r2 r0 k1) k2).2.2.1

end Go.Proofs.YtpiljklnekefoaaGreatDoor

namespace Go.Proofs.YtpiljklnekefoaaGreatDoor
open Go
set_option linter.unusedSimpArgs false
set_option maxRecDepth 100000

def off (l : Int) (n : Nat) : Int := if IntKind.i64.wrap (l - n) < 0 then -1 else IntKind.i64.wrap (l - n)
def fillU {α : Type} (c : α → List AV) (z : List AV) (ws : List α) (i : Nat) : List (List AV) := (ws.take i).map c ++ List.replicate (ws.length - i) z

section
variable {α : Type} (c : α → List AV) (z : List AV) {ws : List α} {i : Nat}
@[simp] theorem fillU_len : (fillU c z ws i).length = ws.length := by simp [fillU]; omega
theorem fillU_get (h : i < ws.length) : (fillU c z ws i)[i]? = some z := by
  have : (List.map c (ws.take i)).length = i := by simp; omega
  rw [fillU, List.getElem?_append_right (by omega), this, Nat.sub_self, List.getElem?_replicate, if_pos (by omega)]
@[simp] theorem fillU_at (h : i < (fillU c z ws i).length) : (fillU c z ws i)[i] = z := by
  have := fillU_get c z (ws := ws) (i := i) (by simpa using h)
  rw [List.getElem?_eq_getElem h] at this
  exact Option.some.inj this
end

end Go.Proofs.YtpiljklnekefoaaGreatDoor

namespace Go.Proofs.YtpiljklnekefoaaGreatDoor
open Go
set_option linter.unusedSimpArgs false
set_option maxRecDepth 100000

end Go.Proofs.YtpiljklnekefoaaGreatDoor

namespace Go.Proofs.YtpiljklnekefoaaGreatDoor
open Go
set_option linter.unusedSimpArgs false
set_option maxRecDepth 100000

def up (k : Int) : Int := IntKind.i64.wrap (k + 1)
def it (f : Int → Int) : Nat → Int → Int
  | 0, k => k
  | n + 1, k => f (it f n k)

def mixU {α : Type} (c : α → List AV) (ws ms : List α) (i : Nat) : List (List AV) := (ms.take i).map c ++ (ws.drop i).map c

section
variable {α : Type} (c : α → List AV) {ws ms : List α} {i : Nat}
theorem mixU_len (h : ms.length = ws.length) (hi : i ≤ ws.length) : (mixU c ws ms i).length = ws.length := by simp [mixU]; omega
theorem mixU_get {a : α} (ha : ws[i]? = some a) (h : ms.length = ws.length) : (mixU c ws ms i)[i]? = some (c a) := by
  obtain ⟨hi, hg⟩ := List.getElem?_eq_some_iff.1 ha
  have h1 : (List.map c (ms.take i)).length = i := by simp; omega
  rw [mixU, List.getElem?_append_right (by omega), h1, Nat.sub_self, List.getElem?_map, List.getElem?_drop]
  simp [ha]
theorem mixU_set {b : α} (hb : ms[i]? = some b) (h : ms.length = ws.length) : (mixU c ws ms i).set i (c b) = mixU c ws ms (i + 1) := by
  obtain ⟨hi, hg⟩ := List.getElem?_eq_some_iff.1 hb
  have h1 : (List.map c (ms.take i)).length = i := by simp; omega
  rw [mixU, mixU, List.set_append_right _ _ (by omega), h1, Nat.sub_self, List.drop_eq_getElem_cons (show i < ws.length by omega), List.map_cons, List.set_cons_zero, take_snoc hb]
  simp
theorem mixU_at {a : α} (ha : ws[i]? = some a) (h : ms.length = ws.length) (hl : i < (mixU c ws ms i).length) : (mixU c ws ms i)[i] = c a := by
  have := mixU_get c ha h
  rw [List.getElem?_eq_getElem hl] at this
  exact Option.some.inj this
theorem mixU_same {a : α} (ha : ws[i]? = some a) (hb : ms[i]? = some a) (h : ms.length = ws.length) : mixU c ws ms i = mixU c ws ms (i + 1) := by
  have hi := (List.getElem?_eq_some_iff.1 ha).1
  have hl : i < (mixU c ws ms i).length := by rw [mixU_len c h (by omega)]; exact hi
  have := List.set_getElem_self (as := mixU c ws ms i) (i := i) hl
  rw [mixU_at c ha h hl] at this
  rw [← mixU_set c hb h, this]
theorem mixU_zero : mixU c ws ms 0 = ws.map c := by simp [mixU]
theorem mixU_all (h : ms.length = ws.length) : mixU c ws ms ws.length = ms.map c := by simp [mixU, ← h]
end

end Go.Proofs.YtpiljklnekefoaaGreatDoor

namespace Go.Proofs.YtpiljklnekefoaaGreatDoor
open Go
set_option linter.unusedSimpArgs false
set_option maxRecDepth 100000

end Go.Proofs.YtpiljklnekefoaaGreatDoor

namespace Go.Proofs.YtpiljklnekefoaaGreatDoor
open Go
set_option linter.unusedSimpArgs false
set_option maxRecDepth 100000

end Go.Proofs.YtpiljklnekefoaaGreatDoor

namespace Go.Proofs.YtpiljklnekefoaaGreatDoor
open Go
set_option linter.unusedSimpArgs false
set_option maxRecDepth 100000

end Go.Proofs.YtpiljklnekefoaaGreatDoor

namespace Go.Proofs.YtpiljklnekefoaaGreatDoor
open Go
set_option linter.unusedSimpArgs false
set_option maxRecDepth 100000

def Mate.refs (n : Nat) (x : Mate) : List AV := [.str x.name, .bool x.up, .int .i64 x.clock, .bool x.known, .int .i64 x.seen, .ref n, .ref (n + 1), .ref (n + 2), .ref (n + 3)]
def Mate.arrs (x : Mate) : List AO := [.arr 7 (x.wants.map Want.c), .arr 11 (x.runs.map Run.c), .arr 4 (x.asks.map Ask.c), .arr 4 (x.gives.map Ask.c)]

end Go.Proofs.YtpiljklnekefoaaGreatDoor

namespace Go.Proofs.YtpiljklnekefoaaGreatDoor
open Go
set_option linter.unusedSimpArgs false
set_option maxRecDepth 100000

structure Parcel.small (p : Parcel) : Prop where
  wants : p.wants.length ≤ 1048576

end Go.Proofs.YtpiljklnekefoaaGreatDoor

namespace Go.Proofs.YtpiljklnekefoaaGreatDoor
open Go
set_option linter.unusedSimpArgs false
set_option maxRecDepth 100000

theorem isName_size {s : T} (h : isName s = true) : s.size ≤ 20 := by
  simp only [isName, Bool.and_eq_true, decide_eq_true_eq] at h
  exact h.1.2
theorem holdOk_size {s : T} (h : (sEq s ⟨#[]⟩ || isHold s) = true) : s.size ≤ 20 := by
  rcases Bool.or_eq_true_iff.1 h with h | h
  · rw [(sEq_iff _ _).1 h]; decide
  · simp only [isHold, Bool.and_eq_true] at h
    exact isName_size h.1
theorem wantOk_fits {w : Want} (h : wantOk w = true) : w.fits := by
  simp only [wantOk, Bool.and_eq_true, inR, decide_eq_true_eq] at h
  obtain ⟨⟨⟨⟨⟨⟨h1, h2⟩, h3⟩, h4⟩, h5⟩, h6⟩, h7⟩ := h
  exact ⟨isName_size h1, holdOk_size h3, ⟨by omega, by omega⟩, ⟨by omega, by omega⟩, ⟨by omega, by omega⟩, ⟨by omega, by omega⟩, ⟨by omega, by omega⟩⟩
theorem wantOk_star {w : Want} (h : wantOk w = true) : sEq w.hold ⟨#[42]⟩ = false := by
  simp only [wantOk, Bool.and_eq_true] at h
  have h3 := h.1.1.1.1.2
  rcases Bool.or_eq_true_iff.1 h3 with h | h
  · rw [(sEq_iff _ _).1 h]; exact sEq_ne (by intro e; cases e)
  · simp only [isHold, Bool.and_eq_true, Bool.not_eq_true'] at h
    exact h.2

theorem formWant_size {w : Want} (h : w.fits) : (formWant w).size ≤ 90 := by
  obtain ⟨h1, h2, n1, n2, n3, n4, n5⟩ := h
  have b1 := (law140' _ n1.1 n1.2).2
  have b2 := (law140' _ n2.1 n2.2).2
  have b3 := (law140' _ n3.1 n3.2).2
  have b4 := (law140' _ n4.1 n4.2).2
  have b5 := (law140' _ n5.1 n5.2).2
  have hh := starOr_size h2
  have z1 : (⟨#[119, 97, 110, 116, 32]⟩ : T).size = 5 := rfl
  have z2 : (⟨#[32]⟩ : T).size = 1 := rfl
  have z3 : (⟨#[10]⟩ : T).size = 1 := rfl
  unfold formWant
  simp only [app_size]
  omega

theorem digit_eq {d : Nat} : digit d = ⟨#[UInt8.ofNat (48 + d)]⟩ := by
  unfold digit
  congr 2
  simp [UInt8.ofNat_add]
theorem dec_lib : ∀ n : Nat, (dec n).data.toList = Lib.decDigits n := by
  intro n
  induction n using Nat.strongRecOn with
  | ind n ih =>
    rw [dec, Lib.decDigits]
    split
    · rw [digit_eq]
    · rw [text_append, ih (n / 10) (by omega), digit_eq]
theorem itoa_dec {n : Int} (h : 0 ≤ n) : itoaT n = dec n.toNat := by
  apply text_ext
  rw [dec_lib]
  simp [itoaT, Lib.itoa, show ¬ n < 0 by omega]

def noHold (p : Parcel) : Bool := sEq p.hold ⟨#[]⟩ && (sEq p.copy ⟨#[]⟩ && p.at_ == 0)
def toldHead (p : Parcel) : T := (⟨#[116, 111, 108, 100, 32]⟩ : T) ++ p.berth ++ (⟨#[32]⟩ : T) ++ dec p.seen.toNat ++ (⟨#[10]⟩ : T)
def formWants (acc : T) : List Want → T
  | [] => acc
  | w :: ws => formWants (acc ++ formWant w) ws
def word (k : Int) : T := if k = 2 then (⟨#[97, 115, 107, 101, 100, 32]⟩ : T) else if k = 3 then (⟨#[103, 105, 118, 101, 110, 32]⟩ : T) else (⟨#[98, 97, 99, 107, 32]⟩ : T)
def formSw (p : Parcel) (h nh : Bool) : T :=
  if p.kind = 1 then (if inR p.seen 1 1000000 && (wantsOk p.wants && nh) then formWants (toldHead p) p.wants else ⟨#[]⟩)
  else if p.kind = 2 ∨ p.kind = 3 ∨ p.kind = 4 then (if h && (isName p.copy && (inR p.at_ 0 1000000 && (p.seen == 0 && p.wants.isEmpty))) then word p.kind ++ p.berth ++ (⟨#[32]⟩ : T) ++ p.hold ++ (⟨#[32]⟩ : T) ++ p.copy ++ (⟨#[32]⟩ : T) ++ dec p.at_.toNat ++ (⟨#[10]⟩ : T) else ⟨#[]⟩)
  else if p.kind = 5 then (if h && (sEq p.copy ⟨#[]⟩ && (inR p.at_ 0 1000000 && (p.seen == 0 && p.wants.isEmpty))) then (⟨#[103, 111, 116, 98, 97, 99, 107, 32]⟩ : T) ++ p.berth ++ (⟨#[32]⟩ : T) ++ p.hold ++ (⟨#[32]⟩ : T) ++ dec p.at_.toNat ++ (⟨#[10]⟩ : T) else ⟨#[]⟩)
  else if p.kind = 6 then (if inR p.seen 0 1000000 && (p.wants.isEmpty && nh) then (⟨#[104, 101, 114, 101, 32]⟩ : T) ++ p.berth ++ (⟨#[32]⟩ : T) ++ dec p.seen.toNat ++ (⟨#[10]⟩ : T) else ⟨#[]⟩)
  else ⟨#[]⟩
def parcelForm (p : Parcel) : T := if isName p.berth then formSw p (isHold p.hold) (noHold p) else ⟨#[]⟩

theorem inR_le {n a b : Int} (h : inR n a b = true) : a ≤ n ∧ n ≤ b := by simpa [inR] using h

def sw218 : CCode := (.seq (.seq (.region [
    ⟨some 40, .faddr (.tmp 1) 0, none⟩,
    ⟨some 41, .load (.tmp 40) 1 false .plain, none⟩] [1, 3, 4, 5, 6, 41])
  (.block 0
    (.seq (.region [
      ⟨some 43, .bin .eql (.tmp 41) (.const (.int .i64 1)), none⟩,
      ⟨some 42, .mov (.tmp 43), none⟩] [1, 3, 4, 5, 6, 41, 42])
    (.cond (.tmp 42)
      (.seq (.seq (.region [
        ⟨some 44, .faddr (.tmp 1) 2, none⟩,
        ⟨some 45, .load (.tmp 44) 1 false .plain, none⟩,
        ⟨some 46, .call 85 [false, false, false] [.tmp 45, .const (.int .i64 1), .const (.int .i64 1000000)], none⟩,
        ⟨some 47, .un .not (.tmp 46), none⟩,
        ⟨some 48, .mov (.tmp 47), none⟩,
        ⟨some 49, .faddr (.tmp 1) 3, some (48, false)⟩,
        ⟨some 50, .load (.tmp 49) 1 false .plain, some (48, false)⟩,
        ⟨some 51, .call 6 [false] [.tmp 50], some (48, false)⟩,
        ⟨some 52, .un .not (.tmp 51), some (48, false)⟩,
        ⟨some 53, .pick (.tmp 48) (.const (.bool true)) (.tmp 52), none⟩,
        ⟨some 54, .mov (.tmp 53), none⟩,
        ⟨some 55, .mov (.tmp 6), some (54, false)⟩,
        ⟨some 56, .un .not (.tmp 55), some (54, false)⟩,
        ⟨some 57, .pick (.tmp 54) (.const (.bool true)) (.tmp 56), none⟩] [1, 3, 57])
      (.cond (.tmp 57)
        (.seq (.region [
          ⟨some 2, .mov (.const (.str ⟨#[]⟩)), none⟩] [2])
        .ret)
        .skip))
      (.seq (.quiet [
        ⟨some 58, .faddr (.tmp 1) 1, none⟩,
        ⟨some 59, .load (.tmp 58) 1 false .plain, none⟩,
        ⟨some 60, .bin .add (.const (.str ⟨#[116, 111, 108, 100, 32]⟩)) (.tmp 59), none⟩,
        ⟨some 61, .bin .add (.tmp 60) (.const (.str ⟨#[32]⟩)), none⟩,
        ⟨some 62, .mov (.tmp 3), none⟩,
        ⟨some 63, .faddr (.tmp 1) 2, none⟩,
        ⟨some 64, .load (.tmp 63) 1 false .plain, none⟩,
        ⟨some 65, .callf (.tmp 62) [false] [.tmp 64], none⟩,
        ⟨some 66, .bin .add (.tmp 61) (.tmp 65), none⟩,
        ⟨some 67, .bin .add (.tmp 66) (.const (.str ⟨#[10]⟩)), none⟩,
        ⟨some 7, .mov (.tmp 67), none⟩] [1, 3, 7])
      (.seq (.seq (.region [
        ⟨some 68, .faddr (.tmp 1) 3, none⟩,
        ⟨some 69, .load (.tmp 68) 1 false .plain, none⟩,
        ⟨some 70, .len false (.tmp 69), none⟩,
        ⟨some 71, .mov (.const (.int .i64 0)), none⟩] [3, 7, 69, 70, 71])
      (.block 1
        (.loop [3, 7, 69, 70, 71] c218b0)))
      (.seq (.region [
        ⟨some 110, .mov (.tmp 7), none⟩,
        ⟨some 2, .mov (.tmp 110), none⟩] [2])
      .ret))))
      (.seq (.seq (.region [
        ⟨some 112, .bin .eql (.tmp 41) (.const (.int .i64 2)), none⟩,
        ⟨some 111, .mov (.tmp 112), none⟩] [1, 3, 4, 5, 6, 41, 111])
      (.cond (.tmp 111)
        .skip
        (.seq (.region [
          ⟨some 113, .bin .eql (.tmp 41) (.const (.int .i64 3)), none⟩,
          ⟨some 111, .mov (.tmp 113), none⟩] [1, 3, 4, 5, 6, 41, 111])
        (.cond (.tmp 111)
          .skip
          (.region [
            ⟨some 114, .bin .eql (.tmp 41) (.const (.int .i64 4)), none⟩,
            ⟨some 111, .mov (.tmp 114), none⟩] [1, 3, 4, 5, 6, 41, 111])))))
      (.cond (.tmp 111)
        (.seq (.seq (.region [
          ⟨some 115, .mov (.tmp 4), none⟩,
          ⟨some 116, .un .not (.tmp 115), none⟩,
          ⟨some 117, .mov (.tmp 116), none⟩,
          ⟨some 118, .faddr (.tmp 1) 5, some (117, false)⟩,
          ⟨some 119, .load (.tmp 118) 1 false .plain, some (117, false)⟩,
          ⟨some 120, .call 105 [false] [.tmp 119], some (117, false)⟩,
          ⟨some 121, .un .not (.tmp 120), some (117, false)⟩,
          ⟨some 122, .pick (.tmp 117) (.const (.bool true)) (.tmp 121), none⟩,
          ⟨some 123, .mov (.tmp 122), none⟩,
          ⟨some 124, .faddr (.tmp 1) 6, some (123, false)⟩,
          ⟨some 125, .load (.tmp 124) 1 false .plain, some (123, false)⟩,
          ⟨some 126, .call 85 [false, false, false] [.tmp 125, .const (.int .i64 0), .const (.int .i64 1000000)], some (123, false)⟩,
          ⟨some 127, .un .not (.tmp 126), some (123, false)⟩,
          ⟨some 128, .pick (.tmp 123) (.const (.bool true)) (.tmp 127), none⟩,
          ⟨some 129, .mov (.tmp 128), none⟩,
          ⟨some 130, .faddr (.tmp 1) 2, some (129, false)⟩,
          ⟨some 131, .load (.tmp 130) 1 false .plain, some (129, false)⟩,
          ⟨some 132, .bin .neq (.tmp 131) (.const (.int .i64 0)), some (129, false)⟩,
          ⟨some 133, .pick (.tmp 129) (.const (.bool true)) (.tmp 132), none⟩,
          ⟨some 134, .mov (.tmp 133), none⟩,
          ⟨some 135, .mov (.tmp 5), some (134, false)⟩,
          ⟨some 136, .un .not (.tmp 135), some (134, false)⟩,
          ⟨some 137, .pick (.tmp 134) (.const (.bool true)) (.tmp 136), none⟩] [1, 3, 137])
        (.cond (.tmp 137)
          (.seq (.region [
            ⟨some 2, .mov (.const (.str ⟨#[]⟩)), none⟩] [2])
          .ret)
          .skip))
        (.seq (.loud [
          ⟨some 138, .bslice 1 [.str ⟨#[]⟩] 3 [(0, .const (.str ⟨#[97, 115, 107, 101, 100]⟩)), (1, .const (.str ⟨#[103, 105, 118, 101, 110]⟩)), (2, .const (.str ⟨#[98, 97, 99, 107]⟩))], none⟩,
          ⟨some 139, .faddr (.tmp 1) 0, none⟩,
          ⟨some 140, .load (.tmp 139) 1 false .plain, none⟩,
          ⟨some 141, .bin .sub (.tmp 140) (.const (.int .i64 2)), none⟩,
          ⟨some 142, .iaddr 1 (.tmp 138) (.tmp 141), none⟩,
          ⟨some 143, .load (.tmp 142) 1 false .plain, none⟩,
          ⟨some 144, .faddr (.tmp 1) 1, none⟩,
          ⟨some 145, .load (.tmp 144) 1 false .plain, none⟩,
          ⟨some 146, .faddr (.tmp 1) 4, none⟩,
          ⟨some 147, .load (.tmp 146) 1 false .plain, none⟩,
          ⟨some 148, .faddr (.tmp 1) 5, none⟩,
          ⟨some 149, .load (.tmp 148) 1 false .plain, none⟩,
          ⟨some 150, .mov (.tmp 3), none⟩,
          ⟨some 151, .faddr (.tmp 1) 6, none⟩,
          ⟨some 152, .load (.tmp 151) 1 false .plain, none⟩,
          ⟨some 153, .callf (.tmp 150) [false] [.tmp 152], none⟩,
          ⟨some 154, .bslice 1 [.str ⟨#[]⟩] 5 [(0, .tmp 143), (1, .tmp 145), (2, .tmp 147), (3, .tmp 149), (4, .tmp 153)], none⟩,
          ⟨some 155, .call 230 [false, false] [.tmp 154, .const (.str ⟨#[32]⟩)], none⟩,
          ⟨some 156, .bin .add (.tmp 155) (.const (.str ⟨#[10]⟩)), none⟩,
          ⟨some 2, .mov (.tmp 156), none⟩] [0, 0, 2, 6, 15, 31, 0, 64, 0, 256, 0, 1024, 0, 0, 8192, 28672, 65535, 131071, 262143, 524287] [2])
        .ret))
        (.seq (.region [
          ⟨some 158, .bin .eql (.tmp 41) (.const (.int .i64 5)), none⟩,
          ⟨some 157, .mov (.tmp 158), none⟩] [1, 3, 4, 5, 6, 41, 157])
        (.cond (.tmp 157)
          (.seq (.seq (.region [
            ⟨some 159, .mov (.tmp 4), none⟩,
            ⟨some 160, .un .not (.tmp 159), none⟩,
            ⟨some 161, .mov (.tmp 160), none⟩,
            ⟨some 162, .faddr (.tmp 1) 5, some (161, false)⟩,
            ⟨some 163, .load (.tmp 162) 1 false .plain, some (161, false)⟩,
            ⟨some 164, .bin .neq (.tmp 163) (.const (.str ⟨#[]⟩)), some (161, false)⟩,
            ⟨some 165, .pick (.tmp 161) (.const (.bool true)) (.tmp 164), none⟩,
            ⟨some 166, .mov (.tmp 165), none⟩,
            ⟨some 167, .faddr (.tmp 1) 6, some (166, false)⟩,
            ⟨some 168, .load (.tmp 167) 1 false .plain, some (166, false)⟩,
            ⟨some 169, .call 85 [false, false, false] [.tmp 168, .const (.int .i64 0), .const (.int .i64 1000000)], some (166, false)⟩,
            ⟨some 170, .un .not (.tmp 169), some (166, false)⟩,
            ⟨some 171, .pick (.tmp 166) (.const (.bool true)) (.tmp 170), none⟩,
            ⟨some 172, .mov (.tmp 171), none⟩,
            ⟨some 173, .faddr (.tmp 1) 2, some (172, false)⟩,
            ⟨some 174, .load (.tmp 173) 1 false .plain, some (172, false)⟩,
            ⟨some 175, .bin .neq (.tmp 174) (.const (.int .i64 0)), some (172, false)⟩,
            ⟨some 176, .pick (.tmp 172) (.const (.bool true)) (.tmp 175), none⟩,
            ⟨some 177, .mov (.tmp 176), none⟩,
            ⟨some 178, .mov (.tmp 5), some (177, false)⟩,
            ⟨some 179, .un .not (.tmp 178), some (177, false)⟩,
            ⟨some 180, .pick (.tmp 177) (.const (.bool true)) (.tmp 179), none⟩] [1, 3, 180])
          (.cond (.tmp 180)
            (.seq (.region [
              ⟨some 2, .mov (.const (.str ⟨#[]⟩)), none⟩] [2])
            .ret)
            .skip))
          (.seq (.quiet [
            ⟨some 181, .faddr (.tmp 1) 1, none⟩,
            ⟨some 182, .load (.tmp 181) 1 false .plain, none⟩,
            ⟨some 183, .bin .add (.const (.str ⟨#[103, 111, 116, 98, 97, 99, 107, 32]⟩)) (.tmp 182), none⟩,
            ⟨some 184, .bin .add (.tmp 183) (.const (.str ⟨#[32]⟩)), none⟩,
            ⟨some 185, .faddr (.tmp 1) 4, none⟩,
            ⟨some 186, .load (.tmp 185) 1 false .plain, none⟩,
            ⟨some 187, .bin .add (.tmp 184) (.tmp 186), none⟩,
            ⟨some 188, .bin .add (.tmp 187) (.const (.str ⟨#[32]⟩)), none⟩,
            ⟨some 189, .mov (.tmp 3), none⟩,
            ⟨some 190, .faddr (.tmp 1) 6, none⟩,
            ⟨some 191, .load (.tmp 190) 1 false .plain, none⟩,
            ⟨some 192, .callf (.tmp 189) [false] [.tmp 191], none⟩,
            ⟨some 193, .bin .add (.tmp 188) (.tmp 192), none⟩,
            ⟨some 194, .bin .add (.tmp 193) (.const (.str ⟨#[10]⟩)), none⟩,
            ⟨some 2, .mov (.tmp 194), none⟩] [2])
          .ret))
          (.seq (.region [
            ⟨some 196, .bin .eql (.tmp 41) (.const (.int .i64 6)), none⟩,
            ⟨some 195, .mov (.tmp 196), none⟩] [1, 3, 5, 6, 195])
          (.cond (.tmp 195)
            (.seq (.seq (.region [
              ⟨some 197, .faddr (.tmp 1) 2, none⟩,
              ⟨some 198, .load (.tmp 197) 1 false .plain, none⟩,
              ⟨some 199, .call 85 [false, false, false] [.tmp 198, .const (.int .i64 0), .const (.int .i64 1000000)], none⟩,
              ⟨some 200, .un .not (.tmp 199), none⟩,
              ⟨some 201, .mov (.tmp 200), none⟩,
              ⟨some 202, .mov (.tmp 5), some (201, false)⟩,
              ⟨some 203, .un .not (.tmp 202), some (201, false)⟩,
              ⟨some 204, .pick (.tmp 201) (.const (.bool true)) (.tmp 203), none⟩,
              ⟨some 205, .mov (.tmp 204), none⟩,
              ⟨some 206, .mov (.tmp 6), some (205, false)⟩,
              ⟨some 207, .un .not (.tmp 206), some (205, false)⟩,
              ⟨some 208, .pick (.tmp 205) (.const (.bool true)) (.tmp 207), none⟩] [1, 3, 208])
            (.cond (.tmp 208)
              (.seq (.region [
                ⟨some 2, .mov (.const (.str ⟨#[]⟩)), none⟩] [2])
              .ret)
              .skip))
            (.seq (.quiet [
              ⟨some 209, .faddr (.tmp 1) 1, none⟩,
              ⟨some 210, .load (.tmp 209) 1 false .plain, none⟩,
              ⟨some 211, .bin .add (.const (.str ⟨#[104, 101, 114, 101, 32]⟩)) (.tmp 210), none⟩,
              ⟨some 212, .bin .add (.tmp 211) (.const (.str ⟨#[32]⟩)), none⟩,
              ⟨some 213, .mov (.tmp 3), none⟩,
              ⟨some 214, .faddr (.tmp 1) 2, none⟩,
              ⟨some 215, .load (.tmp 214) 1 false .plain, none⟩,
              ⟨some 216, .callf (.tmp 213) [false] [.tmp 215], none⟩,
              ⟨some 217, .bin .add (.tmp 212) (.tmp 216), none⟩,
              ⟨some 218, .bin .add (.tmp 217) (.const (.str ⟨#[10]⟩)), none⟩,
              ⟨some 2, .mov (.tmp 218), none⟩] [2])
            .ret))
            .skip))))))))))
  (.seq (.region [
    ⟨some 2, .mov (.const (.str ⟨#[]⟩)), none⟩] [2])
  .ret))
theorem c218_cut : c218 = ⟨219, [.tmp 2],
  (.seq (.region [
    ⟨some 1, .box (.tmp 0), none⟩,
    ⟨some 2, .mov (.const (.str ⟨#[]⟩)), none⟩] [1])
  (.seq (.region [
    ⟨some 3, .mov (.const (.fn 231)), none⟩] [1, 3])
  (.seq (.region [
    ⟨some 11, .faddr (.tmp 1) 4, none⟩,
    ⟨some 12, .load (.tmp 11) 1 false .plain, none⟩,
    ⟨some 13, .call 105 [false] [.tmp 12], none⟩,
    ⟨some 14, .mov (.tmp 13), none⟩,
    ⟨some 15, .faddr (.tmp 1) 4, some (14, true)⟩,
    ⟨some 16, .load (.tmp 15) 1 false .plain, some (14, true)⟩,
    ⟨some 17, .bin .neq (.tmp 16) (.const (.str ⟨#[42]⟩)), some (14, true)⟩,
    ⟨some 18, .pick (.tmp 14) (.tmp 17) (.const (.bool false)), none⟩,
    ⟨some 4, .mov (.tmp 18), none⟩] [1, 3, 4])
  (.seq (.seq (.region [
    ⟨some 19, .faddr (.tmp 1) 1, none⟩,
    ⟨some 20, .load (.tmp 19) 1 false .plain, none⟩,
    ⟨some 21, .call 105 [false] [.tmp 20], none⟩,
    ⟨some 22, .un .not (.tmp 21), none⟩] [1, 3, 4, 22])
  (.cond (.tmp 22)
    (.seq (.region [
      ⟨some 2, .mov (.const (.str ⟨#[]⟩)), none⟩] [2])
    .ret)
    .skip))
  (.seq (.region [
    ⟨some 23, .faddr (.tmp 1) 3, none⟩,
    ⟨some 24, .load (.tmp 23) 1 false .plain, none⟩,
    ⟨some 25, .len false (.tmp 24), none⟩,
    ⟨some 26, .bin .eql (.tmp 25) (.const (.int .i64 0)), none⟩,
    ⟨some 5, .mov (.tmp 26), none⟩] [1, 3, 4, 5])
  (.seq (.region [
    ⟨some 27, .faddr (.tmp 1) 4, none⟩,
    ⟨some 28, .load (.tmp 27) 1 false .plain, none⟩,
    ⟨some 29, .bin .eql (.tmp 28) (.const (.str ⟨#[]⟩)), none⟩,
    ⟨some 30, .mov (.tmp 29), none⟩,
    ⟨some 31, .faddr (.tmp 1) 5, some (30, true)⟩,
    ⟨some 32, .load (.tmp 31) 1 false .plain, some (30, true)⟩,
    ⟨some 33, .bin .eql (.tmp 32) (.const (.str ⟨#[]⟩)), some (30, true)⟩,
    ⟨some 34, .pick (.tmp 30) (.tmp 33) (.const (.bool false)), none⟩,
    ⟨some 35, .mov (.tmp 34), none⟩,
    ⟨some 36, .faddr (.tmp 1) 6, some (35, true)⟩,
    ⟨some 37, .load (.tmp 36) 1 false .plain, some (35, true)⟩,
    ⟨some 38, .bin .eql (.tmp 37) (.const (.int .i64 0)), some (35, true)⟩,
    ⟨some 39, .pick (.tmp 35) (.tmp 38) (.const (.bool false)), none⟩,
    ⟨some 6, .mov (.tmp 39), none⟩] [1, 3, 4, 5, 6])
  sw218))))))⟩ := rfl

def headF (ws : List Want) (i : Nat) (acc : T) : St := hd [(3, .fn 231), (7, .str acc), (69, .sl .bor 7 (ws.map Want.c)), (70, .int .i64 ws.length), (71, .int .i64 i)] [] 0

theorem joinWant (w : Want) (hw : w.fits) : joinT [⟨#[119, 97, 110, 116]⟩, w.copy, itoaT w.version, starOr w.hold, itoaT w.pull, itoaT w.start, itoaT w.dies, itoaT w.grace] ⟨#[32]⟩ ++ ⟨#[10]⟩ = formWant w := by
  rw [itoa_dec hw.version.1, itoa_dec hw.pull.1, itoa_dec hw.start.1, itoa_dec hw.dies.1, itoa_dec hw.grace.1]
  apply text_ext
  simp [joinT, formWant, Lib.join_cons, Lib.joinTail]

theorem joinHold (wd b h c : T) (n : Int) (h1 : wd.size ≤ 20) (h2 : b.size ≤ 20) (h3 : h.size ≤ 20) (h4 : c.size ≤ 20) (n0 : 0 ≤ n) (n1 : n ≤ 1000000) :
    joinT [wd, b, h, c, itoaT n] ⟨#[32]⟩ ++ ⟨#[10]⟩ = wd ++ ⟨#[32]⟩ ++ b ++ ⟨#[32]⟩ ++ h ++ ⟨#[32]⟩ ++ c ++ ⟨#[32]⟩ ++ dec n.toNat ++ ⟨#[10]⟩ ∧ (joinT [wd, b, h, c, itoaT n] ⟨#[32]⟩).size ≤ 200 := by
  have hd := (law140' n n0 n1).2
  have e : joinT [wd, b, h, c, itoaT n] ⟨#[32]⟩ ++ ⟨#[10]⟩ = wd ++ ⟨#[32]⟩ ++ b ++ ⟨#[32]⟩ ++ h ++ ⟨#[32]⟩ ++ c ++ ⟨#[32]⟩ ++ dec n.toNat ++ ⟨#[10]⟩ := by
    rw [itoa_dec n0]
    apply text_ext
    simp [joinT, Lib.join_cons, Lib.joinTail]
  refine ⟨e, ?_⟩
  have hs := congrArg ByteArray.size e
  simp only [app_size] at hs
  have z1 : (⟨#[32]⟩ : T).size = 1 := rfl
  have z2 : (⟨#[10]⟩ : T).size = 1 := rfl
  omega

theorem form_loop {fs : List Fr} (ws : List Want) (acc : T) (hl : ws.length ≤ 1048576) (hok : ∀ w ∈ ws, wantOk w = true) (ha : acc.size ≤ 1000) (s : St) (hs : s.norm [3, 7, 69, 70, 71] = headF ws 0 acc) (hf : ∀ (r : T) (s' : St), s'.slots 7 = .str r → s'.heap = (fun _ => none) → s'.base = 0 → fin [.tmp 2] 0 (X F fs (.exit 1, s')) = some (.str r, [])) :
    fin [.tmp 2] 0 (X F (.code (.loop [3, 7, 69, 70, 71] c218b0) :: fs) (.normal, s)) = some (.str (formWants acc ws), []) := by
  refine (loop_list ws (fun i (acc : T) => headF ws i acc) (fun i acc => acc.size ≤ 1000 + 90 * i) (fun _ r acc => (.str (formWants acc r), [])) (fun acc Y hinv => ?_) (fun i w r acc Y hw hi hr hinv hY => ?_) acc hs (by simpa using ha) ?_).trans rfl
  · simp [headF, c218b0, formWants]
    exact hf acc _ (by simp) rfl rfl
  · have hw1 : IntKind.i64.wrap ((i : Int) + 1) = (i : Int) + 1 := i64w (by omega) (by omega)
    obtain ⟨_, hg⟩ := List.getElem?_eq_some_iff.1 hw
    have hiI : (i : Int) < ws.length := by omega
    have hwk := hok w (List.mem_of_getElem? hw)
    have hfit := wantOk_fits hwk
    have hstar := wantOk_star hwk
    have hj := joinWant w hfit
    have hfs := formWant_size hfit
    have hjs : (joinT [⟨#[119, 97, 110, 116]⟩, w.copy, itoaT w.version, starOr w.hold, itoaT w.pull, itoaT w.start, itoaT w.dies, itoaT w.grace] ⟨#[32]⟩).size + (⟨#[10]⟩ : T).size ≤ 90 := by
      rw [← app_size, hj]; exact hfs
    have a1 := law231 w.version (by have := hfit.version; omega) (by have := hfit.version; omega)
    have a2 := law231 w.pull (by have := hfit.pull; omega) (by have := hfit.pull; omega)
    have a3 := law231 w.start (by have := hfit.start; omega) (by have := hfit.start; omega)
    have a4 := law231 w.dies (by have := hfit.dies; omega) (by have := hfit.dies; omega)
    have a5 := law231 w.grace (by have := hfit.grace; omega) (by have := hfit.grace; omega)
    have hjl := law230 [⟨#[119, 97, 110, 116]⟩, w.copy, itoaT w.version, starOr w.hold, itoaT w.pull, itoaT w.start, itoaT w.dies, itoaT w.grace] ⟨#[32]⟩ (by simp) (by omega)
    simp only [List.map_cons, List.map_nil] at hjl
    have e1 : (joinT [⟨#[119, 97, 110, 116]⟩, w.copy, itoaT w.version, starOr w.hold, itoaT w.pull, itoaT w.start, itoaT w.dies, itoaT w.grace] ⟨#[32]⟩).size + (⟨#[10]⟩ : T).size ≤ 9223372036854775807 := by omega
    have e2 : acc.size + (formWant w).size ≤ 9223372036854775807 := by omega
    have hY' := fun s' h => hY (acc ++ formWant w) s' (by rw [app_size]; omega) h
    simp only [formWants]
    have hst : starOr w.hold = if sEq w.hold ⟨#[]⟩ then ⟨#[42]⟩ else w.hold := rfl
    cases q : sEq w.hold ⟨#[]⟩
    · rw [q] at hst
      simp only [Bool.false_eq_true, if_false] at hst
      rw [hst] at hj hjl e1
      simp [headF, c218b0, hiI, hi, hg, hstar, q, a1, a2, a3, a4, a5, hjl, e1, hj, e2]
      exact hY' _ (by simp [headF, hw1])
    · rw [q] at hst
      simp only [if_true] at hst
      rw [hst] at hj hjl e1
      simp [headF, c218b0, hiI, hi, hg, hstar, q, a1, a2, a3, a4, a5, hjl, e1, hj, e2]
      exact hY' _ (by simp [headF, hw1])
  · unfold big; omega

theorem form218 (p : Parcel) (h nh : Bool) (hs : p.small) (hb : isName p.berth = true) (hh : h = true → isName p.hold = true) (s : St) (n : Nat) (s1 : s.slots 1 = .ptr 0 0 0) (s3 : s.slots 3 = .fn 231) (s4 : s.slots 4 = .bool h) (s5 : s.slots 5 = .bool p.wants.isEmpty) (s6 : s.slots 6 = .bool nh)
    (h0 : s.heap 0 = some (.box (p.c .bor))) (hn : s.next = n + 1) (hba : s.base = 0) : fin [.tmp 2] 0 (X F [.code sw218] (.normal, s)) = some (.str (formSw p h nh), []) := by
  have hbs := isName_size hb
  by_cases k1 : p.kind = 1
  · cases q1 : inR p.seen 1 1000000
    · simp [sw218, formSw, s1, s3, s4, s5, s6, h0, hn, hba, k1, q1]
    have w2 := law6 p.wants (by have := hs.wants; unfold big; omega)
    cases q2 : wantsOk p.wants
    · simp [sw218, formSw, s1, s3, s4, s5, s6, h0, hn, hba, k1, q1, q2, w2]
    cases nh
    · simp [sw218, formSw, s1, s3, s4, s5, s6, h0, hn, hba, k1, q1, q2, w2]
    obtain ⟨r1, r2⟩ := inR_le q1
    have a1 := law231 p.seen (by omega) (by omega)
    rw [itoa_dec (by omega)] at a1
    have b1 := (law140' p.seen (by omega) (by omega)).2
    have z1 : (⟨#[116, 111, 108, 100, 32]⟩ : T).size = 5 := rfl
    have z2 : (⟨#[32]⟩ : T).size = 1 := rfl
    have z3 : (⟨#[10]⟩ : T).size = 1 := rfl
    have y2 : (⟨#[116, 111, 108, 100, 32]⟩ : T).size + (p.berth).size ≤ 9223372036854775807 := by omega
    have y3 : (⟨#[116, 111, 108, 100, 32]⟩ : T).size + (p.berth).size + (⟨#[32]⟩ : T).size ≤ 9223372036854775807 := by omega
    have y4 : (⟨#[116, 111, 108, 100, 32]⟩ : T).size + (p.berth).size + (⟨#[32]⟩ : T).size + (dec p.seen.toNat).size ≤ 9223372036854775807 := by omega
    have y5 : (⟨#[116, 111, 108, 100, 32]⟩ : T).size + (p.berth).size + (⟨#[32]⟩ : T).size + (dec p.seen.toNat).size + (⟨#[10]⟩ : T).size ≤ 9223372036854775807 := by omega
    simp [sw218, formSw, s1, s3, s4, s5, s6, h0, hn, hba, k1, q1, q2, w2, a1, y2, y3, y4, y5]
    refine form_loop p.wants (toldHead p) hs.wants (fun w hw => ((wantsOk_iff _).1 q2).2.1 w hw) ?_ _ ?_ (fun r s' h7 hh hb => ?_)
    · unfold toldHead
      simp only [app_size]
      omega
    · simp [headF, toldHead]
    · simp [h7, hh, hb]
  by_cases k2 : p.kind = 2
  · cases h
    · simp [sw218, formSw, s1, s3, s4, s5, s6, h0, hn, hba, k1, k2]
    have hhs := isName_size (hh rfl)
    cases q1 : isName p.copy
    · simp [sw218, formSw, s1, s3, s4, s5, s6, h0, hn, hba, k1, k2, q1]
    have hcs := isName_size q1
    cases q2 : inR p.at_ 0 1000000
    · simp [sw218, formSw, s1, s3, s4, s5, s6, h0, hn, hba, k1, k2, q1, q2]
    by_cases q3 : p.seen = 0
    case neg => simp [sw218, formSw, s1, s3, s4, s5, s6, h0, hn, hba, k1, k2, q1, q2, q3]
    cases q4 : p.wants.isEmpty
    · simp [sw218, formSw, s1, s3, s4, s5, s6, h0, hn, hba, k1, k2, q1, q2, q3, q4]
    obtain ⟨r1, r2⟩ := inR_le q2
    have a1 := law231 p.at_ (by omega) (by omega)
    have b1 := (law140' p.at_ (by omega) (by omega)).2
    obtain ⟨hj, hz⟩ := joinHold (⟨#[97, 115, 107, 101, 100]⟩) p.berth p.hold p.copy p.at_ (by decide) hbs hhs hcs r1 r2
    have hjl := law230 [⟨#[97, 115, 107, 101, 100]⟩, p.berth, p.hold, p.copy, itoaT p.at_] ⟨#[32]⟩ (by simp) (by omega)
    simp only [List.map_cons, List.map_nil] at hjl
    have e1 : (joinT [⟨#[97, 115, 107, 101, 100]⟩, p.berth, p.hold, p.copy, itoaT p.at_] ⟨#[32]⟩).size + (⟨#[10]⟩ : T).size ≤ 9223372036854775807 := by
      have : (⟨#[10]⟩ : T).size = 1 := rfl
      omega
    have u0 : IntKind.i64.wrap 0 = 0 := by decide
    have u1 : IntKind.i64.wrap 1 = 1 := by decide
    have u2 : IntKind.i64.wrap 2 = 2 := by decide
    simp [sw218, formSw, s1, s3, s4, s5, s6, h0, hn, hba, k1, k2, q1, q2, q3, q4, a1, hjl, e1, hj, word, u0, u1, u2]
    exact text_ext (by simp)
  by_cases k3 : p.kind = 3
  · cases h
    · simp [sw218, formSw, s1, s3, s4, s5, s6, h0, hn, hba, k1, k2, k3]
    have hhs := isName_size (hh rfl)
    cases q1 : isName p.copy
    · simp [sw218, formSw, s1, s3, s4, s5, s6, h0, hn, hba, k1, k2, k3, q1]
    have hcs := isName_size q1
    cases q2 : inR p.at_ 0 1000000
    · simp [sw218, formSw, s1, s3, s4, s5, s6, h0, hn, hba, k1, k2, k3, q1, q2]
    by_cases q3 : p.seen = 0
    case neg => simp [sw218, formSw, s1, s3, s4, s5, s6, h0, hn, hba, k1, k2, k3, q1, q2, q3]
    cases q4 : p.wants.isEmpty
    · simp [sw218, formSw, s1, s3, s4, s5, s6, h0, hn, hba, k1, k2, k3, q1, q2, q3, q4]
    obtain ⟨r1, r2⟩ := inR_le q2
    have a1 := law231 p.at_ (by omega) (by omega)
    have b1 := (law140' p.at_ (by omega) (by omega)).2
    obtain ⟨hj, hz⟩ := joinHold (⟨#[103, 105, 118, 101, 110]⟩) p.berth p.hold p.copy p.at_ (by decide) hbs hhs hcs r1 r2
    have hjl := law230 [⟨#[103, 105, 118, 101, 110]⟩, p.berth, p.hold, p.copy, itoaT p.at_] ⟨#[32]⟩ (by simp) (by omega)
    simp only [List.map_cons, List.map_nil] at hjl
    have e1 : (joinT [⟨#[103, 105, 118, 101, 110]⟩, p.berth, p.hold, p.copy, itoaT p.at_] ⟨#[32]⟩).size + (⟨#[10]⟩ : T).size ≤ 9223372036854775807 := by
      have : (⟨#[10]⟩ : T).size = 1 := rfl
      omega
    have u0 : IntKind.i64.wrap 0 = 0 := by decide
    have u1 : IntKind.i64.wrap 1 = 1 := by decide
    have u2 : IntKind.i64.wrap 2 = 2 := by decide
    simp [sw218, formSw, s1, s3, s4, s5, s6, h0, hn, hba, k1, k2, k3, q1, q2, q3, q4, a1, hjl, e1, hj, word, u0, u1, u2]
    exact text_ext (by simp)
  by_cases k4 : p.kind = 4
  · cases h
    · simp [sw218, formSw, s1, s3, s4, s5, s6, h0, hn, hba, k1, k2, k3, k4]
    have hhs := isName_size (hh rfl)
    cases q1 : isName p.copy
    · simp [sw218, formSw, s1, s3, s4, s5, s6, h0, hn, hba, k1, k2, k3, k4, q1]
    have hcs := isName_size q1
    cases q2 : inR p.at_ 0 1000000
    · simp [sw218, formSw, s1, s3, s4, s5, s6, h0, hn, hba, k1, k2, k3, k4, q1, q2]
    by_cases q3 : p.seen = 0
    case neg => simp [sw218, formSw, s1, s3, s4, s5, s6, h0, hn, hba, k1, k2, k3, k4, q1, q2, q3]
    cases q4 : p.wants.isEmpty
    · simp [sw218, formSw, s1, s3, s4, s5, s6, h0, hn, hba, k1, k2, k3, k4, q1, q2, q3, q4]
    obtain ⟨r1, r2⟩ := inR_le q2
    have a1 := law231 p.at_ (by omega) (by omega)
    have b1 := (law140' p.at_ (by omega) (by omega)).2
    obtain ⟨hj, hz⟩ := joinHold (⟨#[98, 97, 99, 107]⟩) p.berth p.hold p.copy p.at_ (by decide) hbs hhs hcs r1 r2
    have hjl := law230 [⟨#[98, 97, 99, 107]⟩, p.berth, p.hold, p.copy, itoaT p.at_] ⟨#[32]⟩ (by simp) (by omega)
    simp only [List.map_cons, List.map_nil] at hjl
    have e1 : (joinT [⟨#[98, 97, 99, 107]⟩, p.berth, p.hold, p.copy, itoaT p.at_] ⟨#[32]⟩).size + (⟨#[10]⟩ : T).size ≤ 9223372036854775807 := by
      have : (⟨#[10]⟩ : T).size = 1 := rfl
      omega
    have u0 : IntKind.i64.wrap 0 = 0 := by decide
    have u1 : IntKind.i64.wrap 1 = 1 := by decide
    have u2 : IntKind.i64.wrap 2 = 2 := by decide
    simp [sw218, formSw, s1, s3, s4, s5, s6, h0, hn, hba, k1, k2, k3, k4, q1, q2, q3, q4, a1, hjl, e1, hj, word, u0, u1, u2]
    exact text_ext (by simp)
  by_cases k5 : p.kind = 5
  · cases h
    · simp [sw218, formSw, s1, s3, s4, s5, s6, h0, hn, hba, k1, k2, k3, k4, k5]
    have hhs := isName_size (hh rfl)
    cases q1 : sEq p.copy ⟨#[]⟩
    · simp [sw218, formSw, s1, s3, s4, s5, s6, h0, hn, hba, k1, k2, k3, k4, k5, q1]
    cases q2 : inR p.at_ 0 1000000
    · simp [sw218, formSw, s1, s3, s4, s5, s6, h0, hn, hba, k1, k2, k3, k4, k5, q1, q2]
    by_cases q3 : p.seen = 0
    case neg => simp [sw218, formSw, s1, s3, s4, s5, s6, h0, hn, hba, k1, k2, k3, k4, k5, q1, q2, q3]
    cases q4 : p.wants.isEmpty
    · simp [sw218, formSw, s1, s3, s4, s5, s6, h0, hn, hba, k1, k2, k3, k4, k5, q1, q2, q3, q4]
    obtain ⟨r1, r2⟩ := inR_le q2
    have a1 := law231 p.at_ (by omega) (by omega)
    rw [itoa_dec r1] at a1
    have b1 := (law140' p.at_ (by omega) (by omega)).2
    have z1 : (⟨#[103, 111, 116, 98, 97, 99, 107, 32]⟩ : T).size = 8 := rfl
    have z2 : (⟨#[32]⟩ : T).size = 1 := rfl
    have z3 : (⟨#[10]⟩ : T).size = 1 := rfl
    have y2 : (⟨#[103, 111, 116, 98, 97, 99, 107, 32]⟩ : T).size + (p.berth).size ≤ 9223372036854775807 := by omega
    have y3 : (⟨#[103, 111, 116, 98, 97, 99, 107, 32]⟩ : T).size + (p.berth).size + (⟨#[32]⟩ : T).size ≤ 9223372036854775807 := by omega
    have y4 : (⟨#[103, 111, 116, 98, 97, 99, 107, 32]⟩ : T).size + (p.berth).size + (⟨#[32]⟩ : T).size + (p.hold).size ≤ 9223372036854775807 := by omega
    have y5 : (⟨#[103, 111, 116, 98, 97, 99, 107, 32]⟩ : T).size + (p.berth).size + (⟨#[32]⟩ : T).size + (p.hold).size + (⟨#[32]⟩ : T).size ≤ 9223372036854775807 := by omega
    have y6 : (⟨#[103, 111, 116, 98, 97, 99, 107, 32]⟩ : T).size + (p.berth).size + (⟨#[32]⟩ : T).size + (p.hold).size + (⟨#[32]⟩ : T).size + (dec p.at_.toNat).size ≤ 9223372036854775807 := by omega
    have y7 : (⟨#[103, 111, 116, 98, 97, 99, 107, 32]⟩ : T).size + (p.berth).size + (⟨#[32]⟩ : T).size + (p.hold).size + (⟨#[32]⟩ : T).size + (dec p.at_.toNat).size + (⟨#[10]⟩ : T).size ≤ 9223372036854775807 := by omega
    simp [sw218, formSw, s1, s3, s4, s5, s6, h0, hn, hba, k1, k2, k3, k4, k5, q1, q2, q3, q4, a1, y2, y3, y4, y5, y6, y7]
  by_cases k6 : p.kind = 6
  · cases q1 : inR p.seen 0 1000000
    · simp [sw218, formSw, s1, s3, s4, s5, s6, h0, hn, hba, k1, k2, k3, k4, k5, k6, q1]
    cases q4 : p.wants.isEmpty
    · simp [sw218, formSw, s1, s3, s4, s5, s6, h0, hn, hba, k1, k2, k3, k4, k5, k6, q1, q4]
    cases nh
    · simp [sw218, formSw, s1, s3, s4, s5, s6, h0, hn, hba, k1, k2, k3, k4, k5, k6, q1, q4]
    obtain ⟨r1, r2⟩ := inR_le q1
    have a1 := law231 p.seen (by omega) (by omega)
    rw [itoa_dec r1] at a1
    have b1 := (law140' p.seen (by omega) (by omega)).2
    have z1 : (⟨#[104, 101, 114, 101, 32]⟩ : T).size = 5 := rfl
    have z2 : (⟨#[32]⟩ : T).size = 1 := rfl
    have z3 : (⟨#[10]⟩ : T).size = 1 := rfl
    have y2 : (⟨#[104, 101, 114, 101, 32]⟩ : T).size + (p.berth).size ≤ 9223372036854775807 := by omega
    have y3 : (⟨#[104, 101, 114, 101, 32]⟩ : T).size + (p.berth).size + (⟨#[32]⟩ : T).size ≤ 9223372036854775807 := by omega
    have y4 : (⟨#[104, 101, 114, 101, 32]⟩ : T).size + (p.berth).size + (⟨#[32]⟩ : T).size + (dec p.seen.toNat).size ≤ 9223372036854775807 := by omega
    have y5 : (⟨#[104, 101, 114, 101, 32]⟩ : T).size + (p.berth).size + (⟨#[32]⟩ : T).size + (dec p.seen.toNat).size + (⟨#[10]⟩ : T).size ≤ 9223372036854775807 := by omega
    simp [sw218, formSw, s1, s3, s4, s5, s6, h0, hn, hba, k1, k2, k3, k4, k5, k6, q1, q4, a1, y2, y3, y4, y5]
  · simp [sw218, formSw, s1, s3, s4, s5, s6, h0, hn, hba, k1, k2, k3, k4, k5, k6]

theorem law218 (p : Parcel) (hs : p.small) : F 218 [.agg (p.c .bor)] [] = some (.str (parcelForm p), []) := by
  refine F_run fn218 rfl ?_
  unfold parcelForm
  rw [c218_cut]
  have hz : ((p.wants.length : Int) == 0) = p.wants.isEmpty := by
    cases p.wants with
    | nil => rfl
    | cons x xs =>
      have : ¬ (((x :: xs).length : Int) = 0) := by simp; omega
      simpa using this
  cases qb : isName p.berth
  · cases qh : isName p.hold
    · simp [qb, qh]
    · simp [qb, qh]
  have key : ∀ (h nh : Bool) (s : St) (n : Nat), h = isHold p.hold → nh = noHold p → s.slots 1 = .ptr 0 0 0 → s.slots 3 = .fn 231 → s.slots 4 = .bool h → s.slots 5 = .bool p.wants.isEmpty → s.slots 6 = .bool nh → s.heap 0 = some (.box (p.c .bor)) → s.next = n + 1 → s.base = 0 →
      fin [.tmp 2] 0 (X F [.code sw218] (.normal, s)) = some (.str (formSw p (isHold p.hold) (noHold p)), []) := fun h nh s n e1 e2 s1 s3 s4 s5 s6 h0 hn hba => by
    subst e1; subst e2
    exact form218 p _ _ hs qb (fun e => by simp only [isHold, Bool.and_eq_true] at e; exact e.1) s n s1 s3 s4 s5 s6 h0 hn hba
  cases qh : isName p.hold
  · have eh : isHold p.hold = false := by simp [isHold, qh]
    cases e1 : sEq p.hold ⟨#[]⟩
    · have en : noHold p = false := by simp [noHold, e1]
      simp [qb, qh, e1, hz]
      exact key false false _ _ eh.symm en.symm (by simp) (by simp) (by simp) (by simp) (by simp) (by simp) rfl rfl
    cases e2 : sEq p.copy ⟨#[]⟩
    · have en : noHold p = false := by simp [noHold, e1, e2]
      simp [qb, qh, e1, e2, hz]
      exact key false false _ _ eh.symm en.symm (by simp) (by simp) (by simp) (by simp) (by simp) (by simp) rfl rfl
    by_cases e3 : p.at_ = 0
    · have en : noHold p = true := by simp [noHold, e1, e2, e3]
      simp [qb, qh, e1, e2, e3, hz]
      exact key false true _ _ eh.symm en.symm (by simp) (by simp) (by simp) (by simp) (by simp) (by simp [e3]) rfl rfl
    · have en : noHold p = false := by simp [noHold, e1, e2, e3]
      simp [qb, qh, e1, e2, e3, hz]
      exact key false false _ _ eh.symm en.symm (by simp) (by simp) (by simp) (by simp) (by simp [e3]) (by simp) rfl rfl
  cases qs : sEq p.hold ⟨#[42]⟩
  · have eh : isHold p.hold = true := by simp [isHold, qh, qs]
    cases e1 : sEq p.hold ⟨#[]⟩
    · have en : noHold p = false := by simp [noHold, e1]
      simp [qb, qh, qs, e1, hz]
      exact key true false _ _ eh.symm en.symm (by simp) (by simp) (by simp) (by simp) (by simp) (by simp) rfl rfl
    cases e2 : sEq p.copy ⟨#[]⟩
    · have en : noHold p = false := by simp [noHold, e1, e2]
      simp [qb, qh, qs, e1, e2, hz]
      exact key true false _ _ eh.symm en.symm (by simp) (by simp) (by simp) (by simp) (by simp) (by simp) rfl rfl
    by_cases e3 : p.at_ = 0
    · have en : noHold p = true := by simp [noHold, e1, e2, e3]
      simp [qb, qh, qs, e1, e2, e3, hz]
      exact key true true _ _ eh.symm en.symm (by simp) (by simp) (by simp) (by simp) (by simp) (by simp [e3]) rfl rfl
    · have en : noHold p = false := by simp [noHold, e1, e2, e3]
      simp [qb, qh, qs, e1, e2, e3, hz]
      exact key true false _ _ eh.symm en.symm (by simp) (by simp) (by simp) (by simp) (by simp [e3]) (by simp) rfl rfl
  · have eh : isHold p.hold = false := by simp [isHold, qh, qs]
    cases e1 : sEq p.hold ⟨#[]⟩
    · have en : noHold p = false := by simp [noHold, e1]
      simp [qb, qh, qs, e1, hz]
      exact key false false _ _ eh.symm en.symm (by simp) (by simp) (by simp) (by simp) (by simp) (by simp) rfl rfl
    cases e2 : sEq p.copy ⟨#[]⟩
    · have en : noHold p = false := by simp [noHold, e1, e2]
      simp [qb, qh, qs, e1, e2, hz]
      exact key false false _ _ eh.symm en.symm (by simp) (by simp) (by simp) (by simp) (by simp) (by simp) rfl rfl
    by_cases e3 : p.at_ = 0
    · have en : noHold p = true := by simp [noHold, e1, e2, e3]
      simp [qb, qh, qs, e1, e2, e3, hz]
      exact key false true _ _ eh.symm en.symm (by simp) (by simp) (by simp) (by simp) (by simp) (by simp [e3]) rfl rfl
    · have en : noHold p = false := by simp [noHold, e1, e2, e3]
      simp [qb, qh, qs, e1, e2, e3, hz]
      exact key false false _ _ eh.symm en.symm (by simp) (by simp) (by simp) (by simp) (by simp [e3]) (by simp) rfl rfl

end Go.Proofs.YtpiljklnekefoaaGreatDoor

namespace Go.Proofs.YtpiljklnekefoaaGreatDoor
open Go
set_option linter.unusedSimpArgs false
set_option maxRecDepth 100000

def mkT (l : List UInt8) : T := ⟨l.toArray⟩
def cutA (b : UInt8) : List UInt8 → List UInt8 → List (List UInt8)
  | pre, [] => [pre]
  | pre, x :: r => if x = b then pre :: cutA b [] r else cutA b (pre ++ [x]) r
def cutT (s : T) (b : UInt8) : List T := (cutA b [] s.data.toList).map mkT

theorem mkT_data (l : List UInt8) : (mkT l).data.toList = l := rfl
theorem extract_mk (s : T) (a b : Nat) : s.extract a b = mkT ((s.data.toList.take b).drop a) := by
  apply text_ext
  rw [mkT_data, Lib.extract_data]
  simp [List.drop_take]

def atW (ws : List T) (k : Nat) : T := ws.getD k ⟨#[]⟩
def digs : Int → List UInt8 → Option Int
  | a, [] => some a
  | a, x :: r => if 48 ≤ x.toNat ∧ x.toNat ≤ 57 then digs (a * 10 + (x.toNat - 48 : Int)) r else none
def num7 (s : T) : Int := if 1 ≤ s.size ∧ s.size ≤ 7 then match digs 0 s.data.toList with
    | some n => if sEq (dec n.toNat) s then n else -1
    | none => -1
  else -1

end Go.Proofs.YtpiljklnekefoaaGreatDoor

namespace Go.Proofs.YtpiljklnekefoaaGreatDoor
open Go
set_option linter.unusedSimpArgs false
set_option maxRecDepth 100000
def unstar (h : T) : T := if sEq h ⟨#[42]⟩ then ⟨#[]⟩ else h
def readWant (vs : List T) : Want := ⟨atW vs 1, num7 (atW vs 2), unstar (atW vs 3), num7 (atW vs 4), num7 (atW vs 5), num7 (atW vs 6), num7 (atW vs 7)⟩
def readLines (ls : List T) : List Want := ls.dropLast.map fun l => readWant (cutT l 32)
def readKind (w : T) : Int := if sEq w ⟨#[98, 97, 99, 107]⟩ then 4 else if sEq w ⟨#[103, 105, 118, 101, 110]⟩ then 3 else 2
def isAsk (w : T) : Bool := sEq w ⟨#[97, 115, 107, 101, 100]⟩ || (sEq w ⟨#[103, 105, 118, 101, 110]⟩ || sEq w ⟨#[98, 97, 99, 107]⟩)
def readWords (w : T) (ws ls : List T) : Parcel :=
  if sEq w ⟨#[116, 111, 108, 100]⟩ then ⟨1, atW ws 1, num7 (atW ws 2), readLines ls, ⟨#[]⟩, ⟨#[]⟩, 0⟩
  else if isAsk w then ⟨readKind w, atW ws 1, 0, [], atW ws 2, atW ws 3, num7 (atW ws 4)⟩
  else if sEq w ⟨#[103, 111, 116, 98, 97, 99, 107]⟩ then ⟨5, atW ws 1, 0, [], atW ws 2, ⟨#[]⟩, num7 (atW ws 3)⟩
  else if sEq w ⟨#[104, 101, 114, 101]⟩ then ⟨6, atW ws 1, num7 (atW ws 2), [], ⟨#[]⟩, ⟨#[]⟩, 0⟩
  else ⟨0, atW ws 1, 0, [], ⟨#[]⟩, ⟨#[]⟩, 0⟩
def readS (s : T) : Parcel := readWords (atW (cutT (atW (cutT s 10) 0) 32) 0) (cutT (atW (cutT s 10) 0) 32) (cutT s 10).tail
def noParcel : Parcel := ⟨0, ⟨#[]⟩, 0, [], ⟨#[]⟩, ⟨#[]⟩, 0⟩
end Go.Proofs.YtpiljklnekefoaaGreatDoor

namespace Go.Proofs.YtpiljklnekefoaaGreatDoor
open Go
set_option linter.unusedSimpArgs false
set_option maxRecDepth 100000
theorem notmem {b x : UInt8} {r : List UInt8} (h : ¬ b ∈ x :: r) : ¬ x = b ∧ ¬ b ∈ r := ⟨fun e => h (by rw [e]; exact List.mem_cons_self), fun k => h (List.mem_cons_of_mem _ k)⟩
theorem cutA_no {b : UInt8} : ∀ {l : List UInt8} (pre : List UInt8), ¬ b ∈ l → cutA b pre l = [pre ++ l]
  | [], pre, _ => by simp [cutA]
  | x :: r, pre, h => by
    rw [cutA, if_neg (notmem h).1, cutA_no _ (notmem h).2]
    simp
theorem cutA_at {b : UInt8} : ∀ {u v : List UInt8} (pre : List UInt8), ¬ b ∈ u → cutA b pre (u ++ b :: v) = (pre ++ u) :: cutA b [] v
  | [], v, pre, _ => by simp [cutA]
  | x :: u, v, pre, h => by
    rw [List.cons_append, cutA, if_neg (notmem h).1, cutA_at _ (notmem h).2]
    simp
def wantI (x : List T) : Want := ⟨atW x 1, numT (atW x 2), unstar (atW x 3), numT (atW x 4), numT (atW x 5), numT (atW x 6), numT (atW x 7)⟩
def lineOk (x : List T) : Bool := x.length == 8 && sEq (atW x 0) ⟨#[119, 97, 110, 116]⟩
def linesI (acc : List Want) : List T → Option (List Want)
  | [] => some acc
  | l :: r => if lineOk (cutT l 32) then linesI (acc ++ [wantI (cutT l 32)]) r else none
def wordsI (w : T) (ws ls : List T) : Option Parcel :=
  if sEq w ⟨#[116, 111, 108, 100]⟩ && ws.length == 3 then (match linesI [] ls with
    | some wants => some ⟨1, atW ws 1, numT (atW ws 2), wants, ⟨#[]⟩, ⟨#[]⟩, 0⟩
    | none => none)
  else if ws.length == 5 && isAsk w then some ⟨readKind w, atW ws 1, 0, [], atW ws 2, atW ws 3, numT (atW ws 4)⟩
  else if sEq w ⟨#[103, 111, 116, 98, 97, 99, 107]⟩ && ws.length == 4 then some ⟨5, atW ws 1, 0, [], atW ws 2, ⟨#[]⟩, numT (atW ws 3)⟩
  else if sEq w ⟨#[104, 101, 114, 101]⟩ && ws.length == 3 then some ⟨6, atW ws 1, numT (atW ws 2), [], ⟨#[]⟩, ⟨#[]⟩, 0⟩
  else some noParcel
def outI (s : T) : Option Parcel → Parcel × Bool
  | some p => if sEq (parcelForm p) s then (p, true) else (noParcel, false)
  | none => (noParcel, false)
def readI (s : T) : Parcel × Bool :=
  if Lib.hasSuffix s.data.toList [10] then outI s (wordsI (atW (cutT (atW (cutT (s.extract 0 (s.size - 1)) 10) 0) 32) 0) (cutT (atW (cutT (s.extract 0 (s.size - 1)) 10) 0) 32) (cutT (s.extract 0 (s.size - 1)) 10).tail) else (noParcel, false)

structure Words (w : T) (a : Bool) (b : Bool) (c : Bool) (d : Bool) (e : Bool) (f : Bool) : Prop where
  told : sEq w ⟨#[116, 111, 108, 100]⟩ = a
  asked : sEq w ⟨#[97, 115, 107, 101, 100]⟩ = b
  given : sEq w ⟨#[103, 105, 118, 101, 110]⟩ = c
  back : sEq w ⟨#[98, 97, 99, 107]⟩ = d
  gotback : sEq w ⟨#[103, 111, 116, 98, 97, 99, 107]⟩ = e
  here : sEq w ⟨#[104, 101, 114, 101]⟩ = f
theorem m1 : sEq ⟨#[103, 105, 118, 101, 110]⟩ ⟨#[97, 115, 107, 101, 100]⟩ = false := sEq_ne (by intro e; cases e)
theorem m2 : sEq ⟨#[98, 97, 99, 107]⟩ ⟨#[97, 115, 107, 101, 100]⟩ = false := sEq_ne (by intro e; cases e)
theorem m3 : sEq ⟨#[98, 97, 99, 107]⟩ ⟨#[103, 105, 118, 101, 110]⟩ = false := sEq_ne (by intro e; cases e)
end Go.Proofs.YtpiljklnekefoaaGreatDoor

namespace Go.Proofs.YtpiljklnekefoaaGreatDoor
open Go
set_option linter.unusedSimpArgs false
set_option maxRecDepth 100000

/-! ### Numbers -/
theorem digit_nat {d : Nat} (h : d < 10) : (UInt8.ofNat (48 + d)).toNat = 48 + d := by
  rw [UInt8.toNat_ofNat']; omega
theorem dec_bytes : ∀ (n : Nat) (x : UInt8), x ∈ Lib.decDigits n → 48 ≤ x.toNat ∧ x.toNat ≤ 57 := by
  intro n
  induction n using Nat.strongRecOn with
  | ind n ih =>
    intro x hx
    rw [Lib.decDigits] at hx
    split at hx
    · simp only [List.mem_singleton] at hx
      subst hx
      rw [digit_nat (by omega)]; omega
    · rcases List.mem_append.1 hx with hx | hx
      · exact ih (n / 10) (by omega) x hx
      · simp only [List.mem_singleton] at hx
        subst hx
        rw [digit_nat (by omega)]; omega
theorem dec_ne (n : Nat) : ∃ c r, Lib.decDigits n = c :: r := by
  cases h : Lib.decDigits n with
  | cons c r => exact ⟨c, r, rfl⟩
  | nil =>
    rw [Lib.decDigits] at h
    split at h <;> simp at h
theorem parse_dec : ∀ (n : Nat), n ≤ 1000000 → ∀ r, Lib.parseUint10 0 (Lib.decDigits n ++ r) = Lib.parseUint10 n r := by
  intro n
  induction n using Nat.strongRecOn with
  | ind n ih =>
    intro hn r
    rw [Lib.decDigits]
    split
    · rename_i h
      rw [List.cons_append, List.nil_append, Lib.parseUint10, digit_nat h, if_pos ⟨by omega, by omega⟩, if_neg (by omega), if_neg (by omega)]
      congr 1; omega
    · have hd : n % 10 < 10 := by omega
      rw [List.append_assoc, ih (n / 10) (by omega) (by omega), List.cons_append, List.nil_append, Lib.parseUint10, digit_nat hd, if_pos ⟨by omega, by omega⟩, if_neg (by omega), if_neg (by omega)]
      congr 1; omega
theorem digs_dec : ∀ (n : Nat) (r : List UInt8), digs 0 (Lib.decDigits n ++ r) = digs n r := by
  intro n
  induction n using Nat.strongRecOn with
  | ind n ih =>
    intro r
    rw [Lib.decDigits]
    split
    · rename_i h
      rw [List.cons_append, List.nil_append, digs, digit_nat h, if_pos ⟨by omega, by omega⟩]
      congr 1; omega
    · have hd : n % 10 < 10 := by omega
      rw [List.append_assoc, ih (n / 10) (by omega), List.cons_append, List.nil_append, digs, digit_nat hd, if_pos ⟨by omega, by omega⟩]
      congr 1; omega
theorem numT_dec (n : Int) (h0 : 0 ≤ n) (h1 : n ≤ 1000000) : numT (dec n.toNat) = n := by
  unfold numT
  rw [dec_lib]
  obtain ⟨c, r, e⟩ := dec_ne n.toNat
  have hc := dec_bytes n.toNat c (by rw [e]; exact List.mem_cons_self)
  have hp := parse_dec n.toNat (by omega) []
  rw [List.append_nil] at hp
  rw [e] at hp ⊢
  simp only [Lib.atoiAll, Lib.parseMag]
  have hs : ¬ (c.toNat = 43 ∨ c.toNat = 45) := by omega
  have hm : ¬ c.toNat = 45 := by omega
  rw [if_neg hs, if_neg (List.cons_ne_nil _ _), hp]
  simp only [Lib.parseUint10]
  rw [if_neg (by omega), if_neg (by omega), if_neg hm]
  show ((n.toNat : Nat) : Int) = n
  omega
theorem num7_dec (n : Int) (h0 : 0 ≤ n) (h1 : n ≤ 1000000) : num7 (dec n.toNat) = n := by
  have hs := (law140' n h0 h1).2
  obtain ⟨c, r, e⟩ := dec_ne n.toNat
  have h1 : 1 ≤ (dec n.toNat).size := by
    rw [← size_toList, dec_lib, e]; simp
  have hd := digs_dec n.toNat []
  rw [List.append_nil] at hd
  rw [num7, if_pos ⟨h1, hs⟩, dec_lib, hd]
  simp only [digs]
  rw [show ((n.toNat : Nat) : Int) = n by omega, (sEq_iff _ _).2 rfl]
  rfl

/-! ### Lines and words -/
def lns (ls : List (List UInt8)) : List UInt8 := ls.flatMap (· ++ [10])
def wds (w : List UInt8) (r : List (List UInt8)) : List UInt8 := w ++ r.flatMap (32 :: ·)

theorem cut_wds : ∀ (w : List UInt8) (r : List (List UInt8)), (∀ x ∈ w :: r, ¬ (32 : UInt8) ∈ x) → cutA 32 [] (wds w r) = w :: r
  | w, [], h => by
    rw [wds, List.flatMap_nil, List.append_nil, cutA_no _ (h w List.mem_cons_self)]; rfl
  | w, v :: r, h => by
    rw [wds, List.flatMap_cons, List.cons_append, cutA_at _ (h w List.mem_cons_self), List.nil_append]
    have := cut_wds v r (fun x hx => h x (List.mem_cons_of_mem _ hx))
    rw [wds] at this
    rw [this]
theorem cut_lns : ∀ (ls : List (List UInt8)), (∀ x ∈ ls, ¬ (10 : UInt8) ∈ x) → cutA 10 [] (lns ls) = ls ++ [[]]
  | [], _ => rfl
  | l :: ls, h => by
    rw [lns, List.flatMap_cons, List.append_assoc, List.cons_append, List.nil_append, cutA_at _ (h l List.mem_cons_self), List.nil_append]
    have := cut_lns ls (fun x hx => h x (List.mem_cons_of_mem _ hx))
    rw [lns] at this
    rw [this]; rfl
theorem lns_ne (l : List UInt8) (ls : List (List UInt8)) : lns (l :: ls) ≠ [] := by simp [lns]
theorem cut_lns' : ∀ (l : List UInt8) (ls : List (List UInt8)), (∀ x ∈ l :: ls, ¬ (10 : UInt8) ∈ x) → cutA 10 [] (lns (l :: ls)).dropLast = l :: ls
  | l, [], h => by
    rw [lns, List.flatMap_cons, List.flatMap_nil, List.append_nil, List.dropLast_concat, cutA_no _ (h l List.mem_cons_self)]; rfl
  | l, v :: ls, h => by
    have e : (lns (l :: v :: ls)).dropLast = l ++ 10 :: (lns (v :: ls)).dropLast := by
      rw [lns, List.flatMap_cons, List.append_assoc, List.cons_append, List.nil_append, List.dropLast_append_of_ne_nil (by simp)]
      show l ++ (10 :: lns (v :: ls)).dropLast = _
      rw [List.dropLast_cons_of_ne_nil (lns_ne v ls)]
    rw [e, cutA_at _ (h l List.mem_cons_self), cut_lns' v ls (fun x hx => h x (List.mem_cons_of_mem _ hx))]; rfl
theorem lns_suffix : ∀ (l : List UInt8) (ls : List (List UInt8)), Lib.hasSuffix (lns (l :: ls)) [10] = true := by
  intro l ls
  induction ls generalizing l with
  | nil => simp [lns, Lib.hasSuffix]
  | cons v ls ih =>
    have := ih v
    simp only [Lib.hasSuffix, List.isSuffixOf_iff_suffix] at this ⊢
    rw [show lns (l :: v :: ls) = (l ++ [10]) ++ lns (v :: ls) by simp [lns]]
    exact List.IsSuffix.trans this (List.suffix_append _ _)

theorem mkT_self (s : T) : mkT s.data.toList = s := rfl

theorem read_lns {s : T} {l : List UInt8} {ls : List (List UInt8)} (hs : s.data.toList = lns (l :: ls)) (h : ∀ x ∈ l :: ls, ¬ (10 : UInt8) ∈ x) :
    readS s = readWords (atW (cutT (mkT l) 32) 0) (cutT (mkT l) 32) (ls.map mkT ++ [⟨#[]⟩]) ∧ readI s = outI s (wordsI (atW (cutT (mkT l) 32) 0) (cutT (mkT l) 32) (ls.map mkT)) ∧ sEq s ⟨#[]⟩ = false := by
  have e1 : cutT s 10 = mkT l :: (ls.map mkT ++ [⟨#[]⟩]) := by
    rw [cutT, hs, cut_lns _ h]; simp; rfl
  have e2 : cutT (s.extract 0 (s.size - 1)) 10 = mkT l :: ls.map mkT := by
    rw [cutT, extract_mk, mkT_data, List.drop_zero, ← size_toList, ← List.dropLast_eq_take, hs, cut_lns' _ _ h]; rfl
  refine ⟨?_, ?_, ?_⟩
  · rw [readS, e1]; rfl
  · rw [readI, e2, hs, lns_suffix]; rfl
  · refine sEq_ne fun e => ?_
    rw [e] at hs
    exact lns_ne l ls hs.symm
theorem w_told : Words ⟨#[116, 111, 108, 100]⟩ true false false false false false := ⟨(sEq_iff _ _).2 rfl, sEq_ne (by intro e; cases e), sEq_ne (by intro e; cases e), sEq_ne (by intro e; cases e), sEq_ne (by intro e; cases e), sEq_ne (by intro e; cases e)⟩
theorem w_asked : Words ⟨#[97, 115, 107, 101, 100]⟩ false true false false false false := ⟨sEq_ne (by intro e; cases e), (sEq_iff _ _).2 rfl, sEq_ne (by intro e; cases e), sEq_ne (by intro e; cases e), sEq_ne (by intro e; cases e), sEq_ne (by intro e; cases e)⟩
theorem w_given : Words ⟨#[103, 105, 118, 101, 110]⟩ false false true false false false := ⟨sEq_ne (by intro e; cases e), sEq_ne (by intro e; cases e), (sEq_iff _ _).2 rfl, sEq_ne (by intro e; cases e), sEq_ne (by intro e; cases e), sEq_ne (by intro e; cases e)⟩
theorem w_back : Words ⟨#[98, 97, 99, 107]⟩ false false false true false false := ⟨sEq_ne (by intro e; cases e), sEq_ne (by intro e; cases e), sEq_ne (by intro e; cases e), (sEq_iff _ _).2 rfl, sEq_ne (by intro e; cases e), sEq_ne (by intro e; cases e)⟩
theorem w_gotback : Words ⟨#[103, 111, 116, 98, 97, 99, 107]⟩ false false false false true false := ⟨sEq_ne (by intro e; cases e), sEq_ne (by intro e; cases e), sEq_ne (by intro e; cases e), sEq_ne (by intro e; cases e), (sEq_iff _ _).2 rfl, sEq_ne (by intro e; cases e)⟩
theorem w_here : Words ⟨#[104, 101, 114, 101]⟩ false false false false false true := ⟨sEq_ne (by intro e; cases e), sEq_ne (by intro e; cases e), sEq_ne (by intro e; cases e), sEq_ne (by intro e; cases e), sEq_ne (by intro e; cases e), (sEq_iff _ _).2 rfl⟩
theorem dec_mk (n : Nat) : mkT (Lib.decDigits n) = dec n := text_ext (dec_lib n).symm
theorem name_no {s : T} (h : isName s = true) (b : UInt8) (hb : b.toNat < 33) : ¬ b ∈ s.data.toList := by
  intro hm
  simp only [isName, Bool.and_eq_true, List.all_eq_true] at h
  have := h.2 b hm
  simp only [nameByte, Bool.and_eq_true, decide_eq_true_eq] at this
  omega
theorem dec_no (n : Nat) (b : UInt8) (hb : b.toNat < 33) : ¬ b ∈ Lib.decDigits n := fun hm => by
  have := (dec_bytes n b hm).1
  omega
theorem no_wds {b : UInt8} (hb : b ≠ 32) {w : List UInt8} {r : List (List UInt8)} (h : ∀ x ∈ w :: r, ¬ b ∈ x) : ¬ b ∈ wds w r := by
  intro hm
  rcases List.mem_append.1 hm with hm | hm
  · exact h w List.mem_cons_self hm
  · obtain ⟨x, hx, hm⟩ := List.mem_flatMap.1 hm
    rcases List.mem_cons.1 hm with hm | hm
    · exact hb hm
    · exact h x (List.mem_cons_of_mem _ hx) hm
theorem hold_name {h : T} (k : isHold h = true) : isName h = true := by
  simp only [isHold, Bool.and_eq_true] at k
  exact k.1
theorem cutT_wds {w : List UInt8} {r : List (List UInt8)} (h : ∀ x ∈ w :: r, ¬ (32 : UInt8) ∈ x) : cutT (mkT (wds w r)) 32 = mkT w :: r.map mkT := by
  rw [cutT, mkT_data, cut_wds w r h]; rfl
def Round (s : T) (p : Parcel) : Prop := readS s = p ∧ readI s = outI s (some p) ∧ sEq s ⟨#[]⟩ = false

theorem round_asked (b : T) (h : T) (c : T) (a : Int) (hb : isName b = true) (hh : isName h = true) (hc : isName c = true) (ha : 0 ≤ a ∧ a ≤ 1000000) {s : T} (hs : s.data.toList = lns [wds [97, 115, 107, 101, 100] [b.data.toList, h.data.toList, c.data.toList, Lib.decDigits a.toNat]]) : Round s ⟨2, b, 0, [], h, c, a⟩ := by
  have n32 : ∀ x ∈ [97, 115, 107, 101, 100] :: [b.data.toList, h.data.toList, c.data.toList, Lib.decDigits a.toNat], ¬ (32 : UInt8) ∈ x := by
    intro x hx
    simp only [List.mem_cons, List.not_mem_nil, or_false] at hx
    rcases hx with rfl | rfl | rfl | rfl | rfl
    · decide
    · exact name_no hb _ (by decide)
    · exact name_no hh _ (by decide)
    · exact name_no hc _ (by decide)
    · exact dec_no _ _ (by decide)
  have n10 : ∀ x ∈ [97, 115, 107, 101, 100] :: [b.data.toList, h.data.toList, c.data.toList, Lib.decDigits a.toNat], ¬ (10 : UInt8) ∈ x := by
    intro x hx
    simp only [List.mem_cons, List.not_mem_nil, or_false] at hx
    rcases hx with rfl | rfl | rfl | rfl | rfl
    · decide
    · exact name_no hb _ (by decide)
    · exact name_no hh _ (by decide)
    · exact name_no hc _ (by decide)
    · exact dec_no _ _ (by decide)
  obtain ⟨r1, r2, r3⟩ := read_lns hs (fun x hx => by rw [List.mem_singleton.1 hx]; exact no_wds (by decide) n10)
  rw [cutT_wds n32] at r1 r2
  obtain ⟨k1, k2, k3, k4, k5, k6⟩ := w_asked
  have e0 : mkT [97, 115, 107, 101, 100] = ⟨#[97, 115, 107, 101, 100]⟩ := rfl
  have a1 := num7_dec a ha.1 ha.2
  have a2 := numT_dec a ha.1 ha.2
  refine ⟨?_, ?_, r3⟩
  · rw [r1]; simp [readWords, isAsk, readKind, atW, e0, k1, k2, k3, k4, k5, k6, dec_mk, a1, mkT_self]
  · rw [r2]; simp [wordsI, isAsk, readKind, atW, e0, k1, k2, k3, k4, k5, k6, dec_mk, a2, mkT_self]
theorem round_given (b : T) (h : T) (c : T) (a : Int) (hb : isName b = true) (hh : isName h = true) (hc : isName c = true) (ha : 0 ≤ a ∧ a ≤ 1000000) {s : T} (hs : s.data.toList = lns [wds [103, 105, 118, 101, 110] [b.data.toList, h.data.toList, c.data.toList, Lib.decDigits a.toNat]]) : Round s ⟨3, b, 0, [], h, c, a⟩ := by
  have n32 : ∀ x ∈ [103, 105, 118, 101, 110] :: [b.data.toList, h.data.toList, c.data.toList, Lib.decDigits a.toNat], ¬ (32 : UInt8) ∈ x := by
    intro x hx
    simp only [List.mem_cons, List.not_mem_nil, or_false] at hx
    rcases hx with rfl | rfl | rfl | rfl | rfl
    · decide
    · exact name_no hb _ (by decide)
    · exact name_no hh _ (by decide)
    · exact name_no hc _ (by decide)
    · exact dec_no _ _ (by decide)
  have n10 : ∀ x ∈ [103, 105, 118, 101, 110] :: [b.data.toList, h.data.toList, c.data.toList, Lib.decDigits a.toNat], ¬ (10 : UInt8) ∈ x := by
    intro x hx
    simp only [List.mem_cons, List.not_mem_nil, or_false] at hx
    rcases hx with rfl | rfl | rfl | rfl | rfl
    · decide
    · exact name_no hb _ (by decide)
    · exact name_no hh _ (by decide)
    · exact name_no hc _ (by decide)
    · exact dec_no _ _ (by decide)
  obtain ⟨r1, r2, r3⟩ := read_lns hs (fun x hx => by rw [List.mem_singleton.1 hx]; exact no_wds (by decide) n10)
  rw [cutT_wds n32] at r1 r2
  obtain ⟨k1, k2, k3, k4, k5, k6⟩ := w_given
  have e0 : mkT [103, 105, 118, 101, 110] = ⟨#[103, 105, 118, 101, 110]⟩ := rfl
  have a1 := num7_dec a ha.1 ha.2
  have a2 := numT_dec a ha.1 ha.2
  refine ⟨?_, ?_, r3⟩
  · rw [r1]; simp [readWords, isAsk, readKind, atW, e0, k1, k2, k3, k4, k5, k6, dec_mk, a1, mkT_self]
  · rw [r2]; simp [wordsI, isAsk, readKind, atW, e0, k1, k2, k3, k4, k5, k6, dec_mk, a2, mkT_self]
theorem round_back (b : T) (h : T) (c : T) (a : Int) (hb : isName b = true) (hh : isName h = true) (hc : isName c = true) (ha : 0 ≤ a ∧ a ≤ 1000000) {s : T} (hs : s.data.toList = lns [wds [98, 97, 99, 107] [b.data.toList, h.data.toList, c.data.toList, Lib.decDigits a.toNat]]) : Round s ⟨4, b, 0, [], h, c, a⟩ := by
  have n32 : ∀ x ∈ [98, 97, 99, 107] :: [b.data.toList, h.data.toList, c.data.toList, Lib.decDigits a.toNat], ¬ (32 : UInt8) ∈ x := by
    intro x hx
    simp only [List.mem_cons, List.not_mem_nil, or_false] at hx
    rcases hx with rfl | rfl | rfl | rfl | rfl
    · decide
    · exact name_no hb _ (by decide)
    · exact name_no hh _ (by decide)
    · exact name_no hc _ (by decide)
    · exact dec_no _ _ (by decide)
  have n10 : ∀ x ∈ [98, 97, 99, 107] :: [b.data.toList, h.data.toList, c.data.toList, Lib.decDigits a.toNat], ¬ (10 : UInt8) ∈ x := by
    intro x hx
    simp only [List.mem_cons, List.not_mem_nil, or_false] at hx
    rcases hx with rfl | rfl | rfl | rfl | rfl
    · decide
    · exact name_no hb _ (by decide)
    · exact name_no hh _ (by decide)
    · exact name_no hc _ (by decide)
    · exact dec_no _ _ (by decide)
  obtain ⟨r1, r2, r3⟩ := read_lns hs (fun x hx => by rw [List.mem_singleton.1 hx]; exact no_wds (by decide) n10)
  rw [cutT_wds n32] at r1 r2
  obtain ⟨k1, k2, k3, k4, k5, k6⟩ := w_back
  have e0 : mkT [98, 97, 99, 107] = ⟨#[98, 97, 99, 107]⟩ := rfl
  have a1 := num7_dec a ha.1 ha.2
  have a2 := numT_dec a ha.1 ha.2
  refine ⟨?_, ?_, r3⟩
  · rw [r1]; simp [readWords, isAsk, readKind, atW, e0, k1, k2, k3, k4, k5, k6, dec_mk, a1, mkT_self]
  · rw [r2]; simp [wordsI, isAsk, readKind, atW, e0, k1, k2, k3, k4, k5, k6, dec_mk, a2, mkT_self]
theorem round_gotback (b : T) (h : T) (a : Int) (hb : isName b = true) (hh : isName h = true) (ha : 0 ≤ a ∧ a ≤ 1000000) {s : T} (hs : s.data.toList = lns [wds [103, 111, 116, 98, 97, 99, 107] [b.data.toList, h.data.toList, Lib.decDigits a.toNat]]) : Round s ⟨5, b, 0, [], h, ⟨#[]⟩, a⟩ := by
  have n32 : ∀ x ∈ [103, 111, 116, 98, 97, 99, 107] :: [b.data.toList, h.data.toList, Lib.decDigits a.toNat], ¬ (32 : UInt8) ∈ x := by
    intro x hx
    simp only [List.mem_cons, List.not_mem_nil, or_false] at hx
    rcases hx with rfl | rfl | rfl | rfl
    · decide
    · exact name_no hb _ (by decide)
    · exact name_no hh _ (by decide)
    · exact dec_no _ _ (by decide)
  have n10 : ∀ x ∈ [103, 111, 116, 98, 97, 99, 107] :: [b.data.toList, h.data.toList, Lib.decDigits a.toNat], ¬ (10 : UInt8) ∈ x := by
    intro x hx
    simp only [List.mem_cons, List.not_mem_nil, or_false] at hx
    rcases hx with rfl | rfl | rfl | rfl
    · decide
    · exact name_no hb _ (by decide)
    · exact name_no hh _ (by decide)
    · exact dec_no _ _ (by decide)
  obtain ⟨r1, r2, r3⟩ := read_lns hs (fun x hx => by rw [List.mem_singleton.1 hx]; exact no_wds (by decide) n10)
  rw [cutT_wds n32] at r1 r2
  obtain ⟨k1, k2, k3, k4, k5, k6⟩ := w_gotback
  have e0 : mkT [103, 111, 116, 98, 97, 99, 107] = ⟨#[103, 111, 116, 98, 97, 99, 107]⟩ := rfl
  have a1 := num7_dec a ha.1 ha.2
  have a2 := numT_dec a ha.1 ha.2
  refine ⟨?_, ?_, r3⟩
  · rw [r1]; simp [readWords, isAsk, readKind, atW, e0, k1, k2, k3, k4, k5, k6, dec_mk, a1, mkT_self]
  · rw [r2]; simp [wordsI, isAsk, readKind, atW, e0, k1, k2, k3, k4, k5, k6, dec_mk, a2, mkT_self]
theorem round_here (b : T) (a : Int) (hb : isName b = true) (ha : 0 ≤ a ∧ a ≤ 1000000) {s : T} (hs : s.data.toList = lns [wds [104, 101, 114, 101] [b.data.toList, Lib.decDigits a.toNat]]) : Round s ⟨6, b, a, [], ⟨#[]⟩, ⟨#[]⟩, 0⟩ := by
  have n32 : ∀ x ∈ [104, 101, 114, 101] :: [b.data.toList, Lib.decDigits a.toNat], ¬ (32 : UInt8) ∈ x := by
    intro x hx
    simp only [List.mem_cons, List.not_mem_nil, or_false] at hx
    rcases hx with rfl | rfl | rfl
    · decide
    · exact name_no hb _ (by decide)
    · exact dec_no _ _ (by decide)
  have n10 : ∀ x ∈ [104, 101, 114, 101] :: [b.data.toList, Lib.decDigits a.toNat], ¬ (10 : UInt8) ∈ x := by
    intro x hx
    simp only [List.mem_cons, List.not_mem_nil, or_false] at hx
    rcases hx with rfl | rfl | rfl
    · decide
    · exact name_no hb _ (by decide)
    · exact dec_no _ _ (by decide)
  obtain ⟨r1, r2, r3⟩ := read_lns hs (fun x hx => by rw [List.mem_singleton.1 hx]; exact no_wds (by decide) n10)
  rw [cutT_wds n32] at r1 r2
  obtain ⟨k1, k2, k3, k4, k5, k6⟩ := w_here
  have e0 : mkT [104, 101, 114, 101] = ⟨#[104, 101, 114, 101]⟩ := rfl
  have a1 := num7_dec a ha.1 ha.2
  have a2 := numT_dec a ha.1 ha.2
  refine ⟨?_, ?_, r3⟩
  · rw [r1]; simp [readWords, isAsk, readKind, atW, e0, k1, k2, k3, k4, k5, k6, dec_mk, a1, mkT_self]
  · rw [r2]; simp [wordsI, isAsk, readKind, atW, e0, k1, k2, k3, k4, k5, k6, dec_mk, a2, mkT_self]
/-! ### Wants -/
def wantLine (w : Want) : List UInt8 := wds [119, 97, 110, 116] [w.copy.data.toList, Lib.decDigits w.version.toNat, (starOr w.hold).data.toList, Lib.decDigits w.pull.toNat, Lib.decDigits w.start.toNat, Lib.decDigits w.dies.toNat, Lib.decDigits w.grace.toNat]
theorem formWant_data (w : Want) : (formWant w).data.toList = wantLine w ++ [10] := by
  simp [formWant, text_append, dec_lib, wantLine, wds]
theorem formWants_data : ∀ (ws : List Want) (acc : T), (formWants acc ws).data.toList = acc.data.toList ++ lns (ws.map wantLine)
  | [], acc => by simp [formWants, lns]
  | w :: ws, acc => by rw [formWants, formWants_data ws, text_append, formWant_data]; simp [lns]
theorem star_no {h : T} (k : (sEq h ⟨#[]⟩ || isHold h) = true) (b : UInt8) (hb : b.toNat < 33) : ¬ b ∈ (starOr h).data.toList := by
  unfold starOr
  split
  · intro hm
    have : b = 42 := by simpa using hm
    subst this
    exact absurd hb (by decide)
  · rename_i hn
    rcases Bool.or_eq_true_iff.1 k with k | k
    · exact absurd k hn
    · exact name_no (hold_name k) b hb
theorem unstar_star {h : T} (k : sEq h ⟨#[42]⟩ = false) : unstar (starOr h) = h := by
  unfold starOr
  by_cases e : sEq h ⟨#[]⟩ = true
  · rw [if_pos e, (sEq_iff _ _).1 e]
    have : sEq ⟨#[42]⟩ ⟨#[42]⟩ = true := (sEq_iff _ _).2 rfl
    simp [unstar, this]
  · rw [if_neg e, unstar, k]
    rfl
theorem wantLine_no {w : Want} (h : wantOk w = true) (b : UInt8) (hb : b.toNat < 32) : ¬ b ∈ wantLine w := by
  have hc : isName w.copy = true := by simp only [wantOk, Bool.and_eq_true] at h; exact h.1.1.1.1.1.1
  have hh : (sEq w.hold ⟨#[]⟩ || isHold w.hold) = true := by simp only [wantOk, Bool.and_eq_true] at h; exact h.1.1.1.1.2
  refine no_wds (fun e => by subst e; exact absurd hb (by decide)) fun x hx => ?_
  simp only [List.mem_cons, List.not_mem_nil, or_false] at hx
  rcases hx with rfl | rfl | rfl | rfl | rfl | rfl | rfl | rfl
  · intro hm
    simp only [List.mem_cons, List.not_mem_nil, or_false] at hm
    rcases hm with rfl | rfl | rfl | rfl <;> exact absurd hb (by decide)
  · exact name_no hc b (by omega)
  · exact dec_no _ b (by omega)
  · exact star_no hh b (by omega)
  all_goals exact dec_no _ b (by omega)
theorem want_words {w : Want} (h : wantOk w = true) : cutT (mkT (wantLine w)) 32 = [⟨#[119, 97, 110, 116]⟩, w.copy, dec w.version.toNat, starOr w.hold, dec w.pull.toNat, dec w.start.toNat, dec w.dies.toNat, dec w.grace.toNat] := by
  have hc : isName w.copy = true := by simp only [wantOk, Bool.and_eq_true] at h; exact h.1.1.1.1.1.1
  have hh : (sEq w.hold ⟨#[]⟩ || isHold w.hold) = true := by simp only [wantOk, Bool.and_eq_true] at h; exact h.1.1.1.1.2
  rw [wantLine, cutT_wds]
  · simp [dec_mk, mkT_self]; rfl
  · intro x hx
    simp only [List.mem_cons, List.not_mem_nil, or_false] at hx
    rcases hx with rfl | rfl | rfl | rfl | rfl | rfl | rfl | rfl
    · decide
    · exact name_no hc _ (by decide)
    · exact dec_no _ _ (by decide)
    · exact star_no hh _ (by decide)
    all_goals exact dec_no _ _ (by decide)
theorem want_read {w : Want} (h : wantOk w = true) : readWant (cutT (mkT (wantLine w)) 32) = w ∧ wantI (cutT (mkT (wantLine w)) 32) = w ∧ lineOk (cutT (mkT (wantLine w)) 32) = true := by
  obtain ⟨_, _, f1, f2, f3, f4, f5⟩ := wantOk_fits h
  have hs := unstar_star (wantOk_star h)
  have e : sEq ⟨#[119, 97, 110, 116]⟩ ⟨#[119, 97, 110, 116]⟩ = true := (sEq_iff _ _).2 rfl
  rw [want_words h]
  refine ⟨?_, ?_, ?_⟩
  · simp [readWant, atW, num7_dec _ f1.1 f1.2, num7_dec _ f2.1 f2.2, num7_dec _ f3.1 f3.2, num7_dec _ f4.1 f4.2, num7_dec _ f5.1 f5.2, hs]
  · simp [wantI, atW, numT_dec _ f1.1 f1.2, numT_dec _ f2.1 f2.2, numT_dec _ f3.1 f3.2, numT_dec _ f4.1 f4.2, numT_dec _ f5.1 f5.2, hs]
  · simp [lineOk, atW, e]
theorem lines_want : ∀ (ws acc : List Want), (∀ w ∈ ws, wantOk w = true) → linesI acc ((ws.map wantLine).map mkT) = some (acc ++ ws)
  | [], acc, _ => by simp [linesI]
  | w :: ws, acc, h => by
    obtain ⟨_, h2, h3⟩ := want_read (h w List.mem_cons_self)
    rw [List.map_cons, List.map_cons, linesI, h3, if_pos rfl, h2, lines_want ws _ (fun x hx => h x (List.mem_cons_of_mem _ hx)), List.append_assoc]; rfl
theorem lines_read (ws : List Want) (h : ∀ w ∈ ws, wantOk w = true) : readLines ((ws.map wantLine).map mkT ++ [⟨#[]⟩]) = ws := by
  rw [readLines, List.dropLast_concat, List.map_map, List.map_map]
  conv => rhs; rw [← List.map_id ws]
  exact List.map_congr_left fun w hw => (want_read (h w hw)).1

theorem round_told (b : T) (a : Int) (ws : List Want) (hb : isName b = true) (ha : 0 ≤ a ∧ a ≤ 1000000) (hw : ∀ w ∈ ws, wantOk w = true) {s : T} (hs : s.data.toList = lns (wds [116, 111, 108, 100] [b.data.toList, Lib.decDigits a.toNat] :: ws.map wantLine)) : Round s ⟨1, b, a, ws, ⟨#[]⟩, ⟨#[]⟩, 0⟩ := by
  have n32 : ∀ x ∈ [116, 111, 108, 100] :: [b.data.toList, Lib.decDigits a.toNat], ¬ (32 : UInt8) ∈ x := by
    intro x hx
    simp only [List.mem_cons, List.not_mem_nil, or_false] at hx
    rcases hx with rfl | rfl | rfl
    · decide
    · exact name_no hb _ (by decide)
    · exact dec_no _ _ (by decide)
  have n10 : ∀ x ∈ [116, 111, 108, 100] :: [b.data.toList, Lib.decDigits a.toNat], ¬ (10 : UInt8) ∈ x := by
    intro x hx
    simp only [List.mem_cons, List.not_mem_nil, or_false] at hx
    rcases hx with rfl | rfl | rfl
    · decide
    · exact name_no hb _ (by decide)
    · exact dec_no _ _ (by decide)
  obtain ⟨r1, r2, r3⟩ := read_lns hs (fun x hx => by
    rcases List.mem_cons.1 hx with hx | hx
    · rw [hx]; exact no_wds (by decide) n10
    · obtain ⟨w, h1, rfl⟩ := List.mem_map.1 hx
      exact wantLine_no (hw w h1) _ (by decide))
  rw [cutT_wds n32] at r1 r2
  obtain ⟨k1, k2, k3, k4, k5, k6⟩ := w_told
  have e0 : mkT [116, 111, 108, 100] = ⟨#[116, 111, 108, 100]⟩ := rfl
  have a1 := num7_dec a ha.1 ha.2
  have a2 := numT_dec a ha.1 ha.2
  have l1 := lines_read ws hw
  have l2 := lines_want ws [] hw
  refine ⟨?_, ?_, r3⟩
  · rw [r1, readWords, l1]; simp [atW, e0, k1, dec_mk, a1, mkT_self]
  · rw [r2, wordsI, l2]; simp [atW, e0, k1, dec_mk, a2, mkT_self]

/-! ### Both ways -/
theorem round {s : T} {p : Parcel} (hp : parcelForm p = s) (hs : s ≠ ⟨#[]⟩) : Round s p := by
  obtain ⟨kind, b, seen, ws, h, c, a⟩ := p
  unfold parcelForm at hp
  simp only at hp
  split at hp
  case isFalse => exact absurd hp.symm hs
  rename_i hb
  unfold formSw at hp
  simp only at hp
  split at hp
  · rename_i hk
    split at hp
    case isFalse => exact absurd hp.symm hs
    rename_i hc
    simp only [Bool.and_eq_true, noHold, beq_iff_eq] at hc
    obtain ⟨c1, c2, c3, c4, c5⟩ := hc
    have c3 := (sEq_iff _ _).1 c3
    have c4 := (sEq_iff _ _).1 c4
    subst hk; subst c3; subst c4; subst c5
    obtain ⟨i1, i2⟩ := inR_le c1
    refine round_told b seen ws hb ⟨by omega, by omega⟩ ((wantsOk_iff _).1 c2).2.1 ?_
    rw [← hp, formWants_data]
    simp [toldHead, text_append, dec_lib, lns, wds]
  · split at hp
    · rename_i hk
      split at hp
      case isFalse => exact absurd hp.symm hs
      rename_i hc
      simp only [Bool.and_eq_true, beq_iff_eq, List.isEmpty_iff] at hc
      obtain ⟨c1, c2, c3, c4, c5⟩ := hc
      subst c4; subst c5
      obtain ⟨i1, i2⟩ := inR_le c3
      rcases hk with rfl | rfl | rfl
      · refine round_asked b h c a hb (hold_name c1) c2 ⟨i1, i2⟩ ?_
        rw [← hp]
        simp [word, text_append, dec_lib, lns, wds]
      · refine round_given b h c a hb (hold_name c1) c2 ⟨i1, i2⟩ ?_
        rw [← hp]
        simp [word, text_append, dec_lib, lns, wds]
      · refine round_back b h c a hb (hold_name c1) c2 ⟨i1, i2⟩ ?_
        rw [← hp]
        simp [word, text_append, dec_lib, lns, wds]
    · split at hp
      · rename_i hk
        split at hp
        case isFalse => exact absurd hp.symm hs
        rename_i hc
        simp only [Bool.and_eq_true, beq_iff_eq, List.isEmpty_iff] at hc
        obtain ⟨c1, c2, c3, c4, c5⟩ := hc
        have c2 := (sEq_iff _ _).1 c2
        subst hk; subst c2; subst c4; subst c5
        obtain ⟨i1, i2⟩ := inR_le c3
        refine round_gotback b h a hb (hold_name c1) ⟨i1, i2⟩ ?_
        rw [← hp]
        simp [text_append, dec_lib, lns, wds]
      · split at hp
        · rename_i hk
          split at hp
          case isFalse => exact absurd hp.symm hs
          rename_i hc
          simp only [Bool.and_eq_true, beq_iff_eq, List.isEmpty_iff, noHold] at hc
          obtain ⟨c1, c2, c3, c4, c5⟩ := hc
          have c3 := (sEq_iff _ _).1 c3
          have c4 := (sEq_iff _ _).1 c4
          subst hk; subst c2; subst c3; subst c4; subst c5
          obtain ⟨i1, i2⟩ := inR_le c1
          refine round_here b seen hb ⟨i1, i2⟩ ?_
          rw [← hp]
          simp [text_append, dec_lib, lns, wds]
        · exact absurd hp.symm hs

end Go.Proofs.YtpiljklnekefoaaGreatDoor

namespace Go.Proofs.YtpiljklnekefoaaGreatDoor
open Go
set_option linter.unusedSimpArgs false
set_option maxRecDepth 100000

theorem eqsWant (a : Want) : eqCells [.s, .i, .s, .i, .i, .i, .i] a.c a.c = some true := by
  simp [eqCells, eqCell]
  exact (eqWant_iff a a).2 rfl

def headWWant (m m' : Md) (xs : List Want) (i : Nat) : St := hd [(0, .sl m 7 (xs.map Want.c)), (1, .sl m' 7 (xs.map Want.c)), (5, .int .i64 i)] [] 0

theorem law118 (xs : List Want) (hl : xs.length ≤ 1048576) : F 118 [.sl .bor 7 (xs.map Want.c), .sl .bor 7 (xs.map Want.c)] [] = some (.bool true, []) := by
  refine F_run fn118 rfl ?_
  simp [c118]
  refine (loop_list xs (fun i (_ : Unit) => headWWant .bor .bor xs i) (fun _ _ => True) (fun _ _ _ => (.bool true, [])) (fun acc Y _ => ?_) (fun i a r acc Y ha hi hr _ hY => ?_) () ?_ trivial ?_).trans rfl
  · simp [headWWant, c118b0]
  · have hw : IntKind.i64.wrap ((i : Int) + 1) = (i : Int) + 1 := i64w (by omega) (by omega)
    obtain ⟨_, hg⟩ := List.getElem?_eq_some_iff.1 ha
    have he := eqsWant a
    simp only [Want.c] at he
    simp [headWWant, c118b0, hi, hg, he]
    refine hY () _ trivial ?_
    simp [headWWant, hw]
  · simp [headWWant]
  · unfold big; omega

theorem eqsRun (a : Run) : eqCells [.s, .i, .s, .i, .i, .i, .i, .i, .i, .i, .i] a.c a.c = some true := by simp [eqCells, eqCell]

def headWRun (m m' : Md) (xs : List Run) (i : Nat) : St := hd [(0, .sl m 11 (xs.map Run.c)), (1, .sl m' 11 (xs.map Run.c)), (5, .int .i64 i)] [] 0

theorem law31 (xs : List Run) (hl : xs.length ≤ 1048576) : F 31 [.sl .bor 11 (xs.map Run.c), .sl .bor 11 (xs.map Run.c)] [] = some (.bool true, []) := by
  refine F_run fn31 rfl ?_
  simp [c31]
  refine (loop_list xs (fun i (_ : Unit) => headWRun .bor .bor xs i) (fun _ _ => True) (fun _ _ _ => (.bool true, [])) (fun acc Y _ => ?_) (fun i a r acc Y ha hi hr _ hY => ?_) () ?_ trivial ?_).trans rfl
  · simp [headWRun, c31b0]
  · have hw : IntKind.i64.wrap ((i : Int) + 1) = (i : Int) + 1 := i64w (by omega) (by omega)
    obtain ⟨_, hg⟩ := List.getElem?_eq_some_iff.1 ha
    have he := eqsRun a
    simp only [Run.c] at he
    simp [headWRun, c31b0, hi, hg, he]
    refine hY () _ trivial ?_
    simp [headWRun, hw]
  · simp [headWRun]
  · unfold big; omega

theorem eqsAsk (a : Ask) : eqCells [.s, .s, .i, .i] a.c a.c = some true := by simp [eqCells, eqCell]

def headWAsk (m m' : Md) (xs : List Ask) (i : Nat) : St := hd [(0, .sl m 4 (xs.map Ask.c)), (1, .sl m' 4 (xs.map Ask.c)), (5, .int .i64 i)] [] 0

theorem law119 (xs : List Ask) (hl : xs.length ≤ 1048576) : F 119 [.sl .bor 4 (xs.map Ask.c), .sl .bor 4 (xs.map Ask.c)] [] = some (.bool true, []) := by
  refine F_run fn119 rfl ?_
  simp [c119]
  refine (loop_list xs (fun i (_ : Unit) => headWAsk .bor .bor xs i) (fun _ _ => True) (fun _ _ _ => (.bool true, [])) (fun acc Y _ => ?_) (fun i a r acc Y ha hi hr _ hY => ?_) () ?_ trivial ?_).trans rfl
  · simp [headWAsk, c119b0]
  · have hw : IntKind.i64.wrap ((i : Int) + 1) = (i : Int) + 1 := i64w (by omega) (by omega)
    obtain ⟨_, hg⟩ := List.getElem?_eq_some_iff.1 ha
    have he := eqsAsk a
    simp only [Ask.c] at he
    simp [headWAsk, c119b0, hi, hg, he]
    refine hY () _ trivial ?_
    simp [headWAsk, hw]
  · simp [headWAsk]
  · unfold big; omega

theorem law33 (m : Mate) (hm : m.small) : F 33 [.agg (m.c .bor), .agg (m.c .bor)] [] = some (.bool true, []) := by
  refine F_run fn33 rfl ?_
  have w1 := law118 m.wants hm.wants
  have w2 := law31 m.runs hm.runs
  have w3 := law119 m.asks hm.asks
  have w4 := law119 m.gives hm.gives
  simp [c33, w1, w2, w3, w4]
end Go.Proofs.YtpiljklnekefoaaGreatDoor

namespace Go.Proofs.YtpiljklnekefoaaGreatDoor
open Go
set_option linter.unusedSimpArgs false
set_option maxRecDepth 100000

theorem law143 (p : Parcel) (hp : p.small) : F 143 [.agg (p.c .bor), .agg (p.c .bor)] [] = some (.bool true, []) := by
  refine F_run fn143 rfl ?_
  have w := law118 p.wants hp.wants
  have e1 : sEq p.berth p.berth = true := (sEq_iff _ _).2 rfl
  have e2 : sEq p.hold p.hold = true := (sEq_iff _ _).2 rfl
  have e3 : sEq p.copy p.copy = true := (sEq_iff _ _).2 rfl
  simp [c143, w, e1, e2, e3]

end Go.Proofs.YtpiljklnekefoaaGreatDoor

namespace Go.Proofs.YtpiljklnekefoaaGreatDoor
open Go
set_option linter.unusedSimpArgs false
set_option maxRecDepth 100000

def Land.zero : Land := ⟨0, [], []⟩
def told (p : Place) : Parcel := ⟨1, p.berth, p.seen, p.wants, ⟨#[]⟩, ⟨#[]⟩, 0⟩
end Go.Proofs.YtpiljklnekefoaaGreatDoor

namespace Go.Proofs.YtpiljklnekefoaaGreatDoor
open Go
set_option linter.unusedSimpArgs false

section
variable {α : Type} (key : α → T)

def ltCount (b : T) : List α → Nat
  | [] => 0
  | y :: ys => if sLt (key y) b then ltCount b ys + 1 else 0

def putBy (x : α) : List α → List α
  | [] => [x]
  | y :: ys => if sLt (key y) (key x) then y :: putBy x ys else if sEq (key y) (key x) then x :: ys else x :: y :: ys

theorem ltCount_le (b : T) : ∀ l : List α, ltCount key b l ≤ l.length
  | [] => Nat.le_refl _
  | y :: ys => by
    unfold ltCount
    have := ltCount_le b ys
    split <;> simp <;> omega

def hitAt (b : T) (l : List α) : Bool := match l[ltCount key b l]? with
  | some y => sEq (key y) b
  | none => false

theorem putBy_take (x : α) : ∀ l : List α, putBy key x l = l.take (ltCount key (key x) l) ++ x :: l.drop (if hitAt key (key x) l then ltCount key (key x) l + 1 else ltCount key (key x) l)
  | [] => rfl
  | y :: ys => by
    by_cases h1 : sLt (key y) (key x) = true
    · have e1 : ltCount key (key x) (y :: ys) = ltCount key (key x) ys + 1 := by simp [ltCount, h1]
      have e2 : hitAt key (key x) (y :: ys) = hitAt key (key x) ys := by simp [hitAt, e1]
      rw [putBy, if_pos h1, putBy_take x ys, e1, e2]
      cases hitAt key (key x) ys <;> simp
    · have e1 : ltCount key (key x) (y :: ys) = 0 := by simp [ltCount, h1]
      have e2 : hitAt key (key x) (y :: ys) = sEq (key y) (key x) := by simp [hitAt, e1]
      rw [putBy, if_neg h1, e1, e2]
      cases sEq (key y) (key x) <;> simp

theorem ltCount_at {b : T} : ∀ {l : List α} {i : Nat} {y : α}, i < ltCount key b l → l[i]? = some y → sLt (key y) b = true
  | [], i, y, h, _ => by simp [ltCount] at h
  | z :: l, i, y, h, hy => by
    unfold ltCount at h
    split at h
    case isFalse => omega
    rename_i hz
    cases i with
    | zero => simp at hy; subst hy; exact hz
    | succ i => exact ltCount_at (l := l) (i := i) (by omega) (by simpa using hy)
theorem ltCount_stop {b : T} : ∀ {l : List α} {y : α}, l[ltCount key b l]? = some y → sLt (key y) b = false
  | [], y, h => by simp [ltCount] at h
  | z :: l, y, h => by
    by_cases hz : sLt (key z) b = true
    · have e1 : ltCount key b (z :: l) = ltCount key b l + 1 := by simp [ltCount, hz]
      rw [e1] at h
      exact ltCount_stop (by simpa using h)
    · have e1 : ltCount key b (z :: l) = 0 := by simp [ltCount, hz]
      rw [e1] at h
      simp at h
      subst h
      simpa using hz

theorem putBy_len (x : α) : ∀ l : List α, (putBy key x l).length ≤ l.length + 1
  | [] => Nat.le_refl _
  | y :: ys => by
    have := putBy_len x ys
    unfold putBy
    split
    · simp; omega
    · split <;> simp

theorem mem_putBy {x : α} : ∀ {l : List α} {z : α}, z ∈ putBy key x l → z = x ∨ z ∈ l
  | [], z, h => by simp [putBy] at h; exact .inl h
  | y :: ys, z, h => by
    unfold putBy at h
    split at h
    · rcases List.mem_cons.1 h with h | h
      · exact .inr (h ▸ List.mem_cons_self)
      · exact (mem_putBy h).imp id (List.mem_cons_of_mem _)
    · split at h
      · exact (List.mem_cons.1 h).imp id (List.mem_cons_of_mem _)
      · exact List.mem_cons.1 h

def Lacks (b : T) (l : List α) : Prop := ∀ y ∈ l, key y ≠ b

theorem putBy_perm {x : α} : ∀ {l : List α}, Lacks key (key x) l → (putBy key x l).Perm (l ++ [x])
  | [], _ => .refl _
  | y :: ys, h => by
    have h2 : Lacks key (key x) ys := fun z hz => h z (List.mem_cons_of_mem _ hz)
    unfold putBy
    split
    · exact (putBy_perm h2).cons y
    · rw [if_neg (by rw [sEq_ne (h y List.mem_cons_self)]; simp)]
      exact (List.perm_append_comm (l₁ := [x]) (l₂ := y :: ys))

theorem putBy_asc {x : α} : ∀ {l : List α}, Asc key l → Asc key (putBy key x l)
  | [], _ => List.pairwise_singleton _ _
  | y :: ys, h => by
    have h1 := List.pairwise_cons.1 h
    unfold putBy
    split
    · rename_i hlt
      refine List.pairwise_cons.2 ⟨fun z hz => ?_, putBy_asc h1.2⟩
      rcases mem_putBy key hz with rfl | hz
      · exact hlt
      · exact h1.1 z hz
    · rename_i hlt
      split
      · rename_i he
        have e := (sEq_iff _ _).1 he
        exact List.pairwise_cons.2 ⟨fun z hz => by rw [← e]; exact h1.1 z hz, h1.2⟩
      · rename_i he
        have hne : key y ≠ key x := fun e => he ((sEq_iff _ _).2 e)
        have hxy : sLt (key x) (key y) = true := by
          cases q : sLt (key x) (key y) with
          | true => rfl
          | false => exact absurd (sLt_total (by simpa using hlt) q) hne
        refine List.pairwise_cons.2 ⟨fun z hz => ?_, h⟩
        rcases List.mem_cons.1 hz with rfl | hz
        · exact hxy
        · exact sLt_trans hxy (h1.1 z hz)

theorem putBy_set {x y : α} : ∀ {l : List α} {i : Nat}, Asc key l → l[i]? = some y → key y = key x → putBy key x l = l.set i x
  | [], i, _, h, _ => by simp at h
  | z :: l, i, ha, h, he => by
    have h1 := List.pairwise_cons.1 ha
    cases i with
    | zero =>
      simp at h
      subst h
      rw [putBy, if_neg (by rw [he, sLt_irrefl]; simp), if_pos (by rw [he]; exact sEq_self _)]
      rfl
    | succ i =>
      have hl : l[i]? = some y := by simpa using h
      have := h1.1 y (List.mem_of_getElem? hl)
      rw [he] at this
      rw [putBy, if_pos this, putBy_set h1.2 hl he]
      rfl

end

/-! ### Sorting -/
theorem keysApart_of {c : Nat} : ∀ {xs : List (List AV)}, Diff c xs → (∀ r ∈ xs, ∃ s, keyAt c r = some s) → keysApart c xs = true
  | [], _, _ => rfl
  | r :: rs, h, hk => by
    have h1 := List.pairwise_cons.1 h
    simp only [keysApart, Bool.and_eq_true, List.all_eq_true, Bool.not_eq_true']
    obtain ⟨s, hs⟩ := hk r List.mem_cons_self
    exact ⟨by rw [hs]; rfl, fun x hx => sEq_ne (h1.1 x hx), keysApart_of h1.2 fun x hx => hk x (List.mem_cons_of_mem _ hx)⟩

theorem sort_typed {α : Type} (f : α → List AV) (key : α → T) (c : Nat) (hf : ∀ a, keyAt c (f a) = some (key a)) {xs ys : List α} (hp : ys.Perm xs) (ha : Asc key ys) : keysApart c (xs.map f) = true ∧ sortRows c (xs.map f) = ys.map f := by
  have hd : Diff c (ys.map f) := by
    unfold Diff
    rw [List.pairwise_map]
    refine ha.imp fun {a b} h => ?_
    rw [hf, hf]
    exact sLt_ne h
  have hd2 : Diff c (xs.map f) := (List.Perm.pairwise_iff (fun h e => h e.symm) (hp.map f)).1 hd
  have hs : (ys.map f).Pairwise (fun a b => rowLt c a b = true) := by
    rw [List.pairwise_map]
    refine ha.imp fun {a b} h => ?_
    unfold rowLt
    rw [hf, hf]
    exact h
  refine ⟨keysApart_of hd2 fun r hr => ?_, sorted_one ((sortRows_perm c _).trans (hp.map f).symm) (sortRows_sorted hd2) hs⟩
  obtain ⟨a, _, rfl⟩ := List.mem_map.1 hr
  exact ⟨_, hf a⟩
end Go.Proofs.YtpiljklnekefoaaGreatDoor

namespace Go.Proofs.YtpiljklnekefoaaGreatDoor
open Go
set_option linter.unusedSimpArgs false
set_option maxRecDepth 100000

end Go.Proofs.YtpiljklnekefoaaGreatDoor

namespace Go.Proofs.YtpiljklnekefoaaGreatDoor
open Go
set_option linter.unusedSimpArgs false
set_option maxRecDepth 100000

/-! ### Grants -/
/-! ### Places -/
/-! ### Books -/
def Land.refs (n : Nat) (l : Land) : List AV := [.int .i64 l.time, .ref n, .ref (n + 1)]
def Land.arrs (l : Land) : List AO := [.arr 5 (l.grants.map Grant.c), .arr 3 (l.places.map (Place.c .own))]

/-! ### Parcels -/
end Go.Proofs.YtpiljklnekefoaaGreatDoor

namespace Go.Proofs.YtpiljklnekefoaaGreatDoor
open Go
set_option linter.unusedSimpArgs false
set_option maxRecDepth 100000

end Go.Proofs.YtpiljklnekefoaaGreatDoor

namespace Go.Proofs.YtpiljklnekefoaaGreatDoor
open Go
set_option linter.unusedSimpArgs false
set_option maxRecDepth 100000

def head182 (ws : List Want) (n : T) (i : Nat) : St := hd [(1, .str n), (4, .ptr 0 0 0), (8, .sl .bor 7 (ws.map Want.c)), (9, .int .i64 ws.length), (10, .int .i64 i)] [.box Want.zero.c] 0

theorem law182 (ws : List Want) (n : T) (hl : ws.length < big) : F 182 [.sl .bor 7 (ws.map Want.c), .str n] [] = some (.tup [.agg ((findW ws n).getD .zero).c, .bool (findW ws n).isSome], []) := by
  refine F_run fn182 rfl ?_
  have hm : ws.length ≤ 9223372036854775807 := by unfold big at hl; omega
  simp [c182]
  refine (loop_list ws (fun i (_ : Unit) => head182 ws n i) (fun _ _ => True) (fun _ r l => (AV.tup [.agg ((findW r n).getD .zero).c, .bool (findW r n).isSome], ([] : List (Option AO)))) (fun acc Y _ => ?_) (fun i a r acc Y ha hi hr _ hY => ?_) () ?_ trivial ?_).trans rfl
  · simp [head182, c182b0, findW, Want.zero]
  · have hw : IntKind.i64.wrap ((i : Int) + 1) = (i : Int) + 1 := i64w (by omega) (by omega)
    obtain ⟨_, hg⟩ := List.getElem?_eq_some_iff.1 ha
    have hiI : (i : Int) < ws.length := by omega
    cases q : sEq a.copy n
    · simp [head182, c182b0, hi, hiI, hg, findW, Want.zero, q]
      refine hY () _ trivial ?_
      simp [head182, hw, Want.zero]
    · simp [head182, c182b0, hi, hiI, hg, findW, Want.zero, q]
  · simp [head182, Want.zero]
  · exact hl

end Go.Proofs.YtpiljklnekefoaaGreatDoor

namespace Go.Proofs.YtpiljklnekefoaaGreatDoor
open Go
set_option linter.unusedSimpArgs false
set_option maxRecDepth 100000

def Grant.k (g : Grant) : T := g.hold
def blocks (t : Int) (p : Parcel) (g : Grant) : Bool := decide (t < g.til) && !(sEq g.berth p.berth && (sEq g.copy p.copy && decide (g.at_ ≤ p.at_)))
theorem rowsPlain_take {k : Nat} {xs : List (List AV)} (h : rowsPlain xs = true) : rowsPlain (xs.take k) = true := by
  unfold rowsPlain at *
  rw [List.all_eq_true] at *
  exact fun x hx => h x (List.mem_of_mem_take hx)
theorem rowsPlain_drop {k : Nat} {xs : List (List AV)} (h : rowsPlain xs = true) : rowsPlain (xs.drop k) = true := by
  unfold rowsPlain at *
  rw [List.all_eq_true] at *
  exact fun x hx => h x (List.mem_of_mem_drop hx)
theorem rowsN : rowsPlain [] = true := rfl
end Go.Proofs.YtpiljklnekefoaaGreatDoor

namespace Go.Proofs.YtpiljklnekefoaaGreatDoor
open Go
set_option linter.unusedSimpArgs false
set_option maxRecDepth 100000

theorem askAtGo_spec (h : T) : ∀ (l : List Ask) (i : Nat), (askAtGo h l i = -1 ∧ ∀ a ∈ l, sEq a.hold h = false) ∨ ∃ k, ∃ hk : k < l.length, askAtGo h l i = ((i + k : Nat) : Int) ∧ sEq (l[k]'hk).hold h = true ∧ ∀ j (hj : j < k), sEq (l[j]'(by omega)).hold h = false
  | [], i => .inl ⟨rfl, by simp⟩
  | a :: l, i => by
    simp only [askAtGo]
    by_cases q : sEq a.hold h = true
    · right
      refine ⟨0, by simp, by rw [if_pos q]; rfl, by simpa using q, fun j hj => absurd hj (Nat.not_lt_zero _)⟩
    · rw [if_neg q]
      rcases askAtGo_spec h l (i + 1) with ⟨h1, h2⟩ | ⟨k, hk, h1, h2, h3⟩
      · left
        refine ⟨h1, fun b hb => ?_⟩
        rcases List.mem_cons.1 hb with rfl | hb
        · simpa using q
        · exact h2 b hb
      · right
        refine ⟨k + 1, by simpa using hk, by rw [h1]; congr 1; omega, by simpa using h2, fun j hj => ?_⟩
        rcases j with _ | j
        · simpa using q
        · simpa using h3 j (by omega)

theorem askAt_spec (l : List Ask) (h : T) : (askAt l h = -1 ∧ ∀ a ∈ l, sEq a.hold h = false) ∨ ∃ k, ∃ hk : k < l.length, askAt l h = (k : Int) ∧ sEq (l[k]'hk).hold h = true ∧ ∀ j (hj : j < k), sEq (l[j]'(by omega)).hold h = false := by
  have := askAtGo_spec h l 0
  simpa [askAt] using this

def dropAt (l : List Ask) (i : Nat) : List Ask := l.take i ++ l.drop (i + 1)
def dropHold (l : List Ask) (h : T) : List Ask := l.filter fun a => !sEq a.hold h

theorem law137 (l : List Ask) (i : Nat) (hi : i < l.length) (hl : l.length ≤ 1048576) : F 137 [.sl .bor 4 (l.map Ask.c), .int .i64 i] [] = some (.sl .own 4 ((dropAt l i).map Ask.c), []) := by
  refine F_run fn137 rfl ?_
  have hw : IntKind.i64.wrap ((i : Int) + 1) = ((i + 1 : Nat) : Int) := i64w (by omega) (by omega)
  have h1 : (i : Int) ≤ l.length := by omega
  have h2 : ((i + 1 : Nat) : Int) ≤ l.length := by omega
  have h3 : i ≤ l.length := by omega
  have h4 : i + 1 ≤ l.length := by omega
  have e1 : min i l.length = i := by omega
  have p1 : rowsPlain ((List.map Ask.c l).take i) = true := by rw [← List.map_take]; exact plain_ask _
  have p2 : rowsPlain ((List.map Ask.c l).drop (i + 1)) = true := by rw [← List.map_drop]; exact plain_ask _
  have b1 : i * 48 ≤ 140737488355328 := by omega
  have b2 : i ≤ 140737488355328 := by omega
  have b3 : (i + (l.length - (i + 1))) * 48 ≤ 140737488355328 := by omega
  have b4 : i + (l.length - (i + 1)) ≤ 140737488355328 := by omega
  have t2 : List.take (l.length - (i + 1)) (List.drop (i + 1) (List.map Ask.c l)) = List.drop (i + 1) (List.map Ask.c l) := List.take_of_length_le (by simp)
  simp only [show ((i + 1 : Nat) : Int) = (i : Int) + 1 from rfl] at *
  have t3 : ((i : Int) + 1).toNat = i + 1 := by omega
  have t4 : (0 : Int) ≤ (i : Int) + 1 := by omega
  simp [c137, slBounds, hw, h1, h2, h3, h4, t2, t3, t4, takeRows, p1, p2, e1, b1, b2, b3, b4, dropAt]
  done

def head136 (l : List Ask) (h : T) (i : Nat) (acc : List Ask) : St := hd [(0, .sl .bor 4 (l.map Ask.c)), (1, .str h), (5, .ref 0), (6, .int .i64 i)] [.arr 4 (acc.map Ask.c)] 0

theorem law136 (l : List Ask) (h : T) (hl : l.length ≤ 1048576) : F 136 [.sl .bor 4 (l.map Ask.c), .str h] [] = some (.sl .own 4 ((dropHold l h).map Ask.c), []) := by
  refine F_run fn136 rfl ?_
  simp [c136]
  refine (loop_list l (fun i (acc : List Ask) => head136 l h i acc) (fun i acc => acc.length ≤ i) (fun _ r acc => (.sl .own 4 ((acc ++ dropHold r h).map Ask.c), [])) (fun acc Y hacc => ?_) (fun i a r acc Y ha hi hr hacc hY => ?_) [] ?_ (Nat.le_refl _) ?_).trans (by simp)
  · simp [head136, c136b0, dropHold]
  · have hw : IntKind.i64.wrap ((i : Int) + 1) = (i : Int) + 1 := i64w (by omega) (by omega)
    obtain ⟨_, hg⟩ := List.getElem?_eq_some_iff.1 ha
    have hb3 : (acc.length + 1) * 48 ≤ 140737488355328 := by omega
    have hb4 : acc.length + 1 ≤ 140737488355328 := by omega
    simp only [dropHold, List.filter_cons]
    simp [head136, c136b0, hi, hg, takeRows, rowsPlain, hb3, hb4]
    cases q : sEq a.hold h <;> simp
    · exact (hY (acc ++ [a]) _ (by simp; omega) (by simp [head136, hw])).trans (by simp [dropHold])
    · exact (hY acc _ (by omega) (by simp [head136, hw])).trans (by simp [dropHold])
  · simp [head136]
  · unfold big; omega

theorem asksGo_lt {c : Int} : ∀ (r pre : List Ask), asksGo c pre r = true → (∀ p, pre.getLast? = some p → ∀ q ∈ pre, q = p ∨ sLt q.hold p.hold = true) → ∀ a ∈ r, ∀ q ∈ pre, sLt q.hold a.hold = true
  | [], _, _, _, a, ha => by simp at ha
  | b :: r, pre, h, hp, a, ha => by
    simp only [asksGo, Bool.and_eq_true] at h
    obtain ⟨_, h2, h3⟩ := h
    have hb : ∀ q ∈ pre, sLt q.hold b.hold = true := by
      intro q hq
      unfold ascA at h2
      cases hl : pre.getLast? with
      | none => rw [List.getLast?_eq_none_iff] at hl; rw [hl] at hq; simp at hq
      | some p =>
        rw [hl] at h2
        rcases hp p hl q hq with rfl | h4
        · exact h2
        · exact sLt_trans h4 h2
    rcases List.mem_cons.1 ha with rfl | ha
    · exact hb
    · intro q hq
      refine asksGo_lt r (pre ++ [b]) h3 ?_ a ha q (List.mem_append.2 (.inl hq))
      intro p hpl q hq
      rw [List.getLast?_concat] at hpl
      obtain rfl := Option.some.inj hpl
      rcases List.mem_append.1 hq with hq | hq
      · exact .inr (hb q hq)
      · simp at hq; exact .inl hq

theorem asks_sorted {c : Int} {l : List Ask} (h : asksOk l c = true) : l.Pairwise fun a b => sLt a.hold b.hold = true := by
  unfold asksOk at h
  rw [Bool.and_eq_true] at h
  have go : ∀ (r pre : List Ask), asksGo c pre r = true → (∀ p, pre.getLast? = some p → ∀ q ∈ pre, q = p ∨ sLt q.hold p.hold = true) → r.Pairwise fun a b => sLt a.hold b.hold = true := by
    intro r
    induction r with
    | nil => intro _ _ _; exact .nil
    | cons b r ih =>
      intro pre hg hp
      have hg0 := hg
      simp only [asksGo, Bool.and_eq_true] at hg
      obtain ⟨_, h2, h3⟩ := hg
      have hlast : ∀ p, (pre ++ [b]).getLast? = some p → ∀ q ∈ pre ++ [b], q = p ∨ sLt q.hold p.hold = true := by
        intro p hpl q hq
        rw [List.getLast?_concat] at hpl
        obtain rfl := Option.some.inj hpl
        rcases List.mem_append.1 hq with hq | hq
        · exact .inr (asksGo_lt (b :: r) pre hg0 hp b List.mem_cons_self q hq)
        · simp at hq; exact .inl hq
      refine List.pairwise_cons.2 ⟨fun a ha => ?_, ih _ h3 hlast⟩
      exact asksGo_lt r (pre ++ [b]) h3 hlast a ha b (by simp)
  exact go l [] h.2 (by simp)

theorem drop_same {c : Int} {l : List Ask} (h : asksOk l c = true) {k : Nat} (hk : k < l.length) : dropHold l l[k].hold = dropAt l k := by
  have hs := asks_sorted h
  have e : l = l.take k ++ l[k] :: l.drop (k + 1) := by rw [← List.drop_eq_getElem_cons hk, List.take_append_drop]
  generalize hx : l[k] = x at e
  rw [e] at hs
  obtain ⟨_, h2, h3⟩ := List.pairwise_append.1 hs
  rw [List.pairwise_cons] at h2
  unfold dropHold dropAt
  have f1 : (l.take k).filter (fun a => !sEq a.hold x.hold) = l.take k := by
    rw [List.filter_eq_self]
    intro a ha
    rw [sEq_ne (sLt_ne (h3 a ha x List.mem_cons_self))]; rfl
  have f2 : (l.drop (k + 1)).filter (fun a => !sEq a.hold x.hold) = l.drop (k + 1) := by
    rw [List.filter_eq_self]
    intro a ha
    rw [sEq_ne (Ne.symm (sLt_ne (h2.1 a ha)))]; rfl
  calc l.filter (fun a => !sEq a.hold x.hold) = (l.take k ++ x :: l.drop (k + 1)).filter (fun a => !sEq a.hold x.hold) := by rw [← e]
    _ = _ := by rw [List.filter_append, List.filter_cons, f1, f2]; simp

def giveRun (p : Parcel) (r : Run) : Run := if sEq r.want.hold p.hold && (sEq r.want.copy p.copy && decide (r.til < IntKind.i64.wrap (p.at_ + 16))) then { r with til := IntKind.i64.wrap (p.at_ + 16) } else r
def askFits (a : Ask) (p : Parcel) : Bool := sEq a.copy p.copy && (decide (a.first ≤ p.at_) && decide (p.at_ ≤ a.at_))
def takeGiven (m : Mate) (p : Parcel) : Mate := match m.asks.find? (fun a => sEq a.hold p.hold) with
  | some a => if askFits a p then { m with runs := m.runs.map (giveRun p) } else m
  | none => m
def takeBack' (m : Mate) (p : Parcel) : Mate := match m.gives.find? (fun a => sEq a.hold p.hold) with
  | some a => if a.at_ == p.at_ then { m with gives := dropHold m.gives p.hold } else m
  | none => m
def takeTold (m : Mate) (p : Parcel) : Mate := if (!m.known || decide (m.seen < p.seen)) && (wantsOk p.wants && inR p.seen 1 1000000) then { m with known := true, seen := p.seen, wants := p.wants } else m
def takeKind (m : Mate) (p : Parcel) : Mate := if p.kind = 1 then takeTold m p else if p.kind = 3 then takeGiven m p else if p.kind = 5 then takeBack' m p else m
def mateTake (m : Mate) (p : Parcel) : Mate := if mateValid m then (if m.up && sEq p.berth m.name then takeKind m p else m) else .zero

theorem find_at {l : List Ask} {h : T} {k : Nat} (hk : k < l.length) (h1 : sEq l[k].hold h = true) (h2 : ∀ j (hj : j < k), sEq (l[j]'(by omega)).hold h = false) : l.find? (fun a => sEq a.hold h) = some l[k] := by
  rw [List.find?_eq_some_iff_getElem]
  refine ⟨h1, k, hk, rfl, fun j hj => ?_⟩
  rw [h2 j hj]; rfl

def head61 (m : Mate) (p : Parcel) (i : Nat) : St := hd [(2, .ptr 0 0 0), (3, .ptr 1 0 0), (4, .ptr 2 0 0), (101, .ref 3), (102, .int .i64 m.runs.length), (103, .int .i64 i)]
  [.box [.str m.name, .bool m.up, .int .i64 m.clock, .bool m.known, .int .i64 m.seen, .ref 4, .ref 3, .ref 5, .ref 6], .box (p.c .bor), .box zeroCells, .arr 11 (mixU Run.c m.runs (m.runs.map (giveRun p)) i), .arr 7 (m.wants.map Want.c), .arr 4 (m.asks.map Ask.c), .arr 4 (m.gives.map Ask.c)] 0

theorem valid_asks {m : Mate} (h : mateValid m = true) : asksOk m.asks m.clock = true ∧ asksOk m.gives m.clock = true := by
  unfold mateValid mateParts at h
  simp only [Bool.and_eq_true] at h
  exact ⟨h.1.2.2.2.2.2.2.1, h.1.2.2.2.2.2.2.2⟩

theorem law61 (m : Mate) (p : Parcel) (hm : m.small) (hp : p.wants.length ≤ 1048576) : F 61 [.agg (m.c .bor), .agg (p.c .bor)] [] = some (.agg ((mateTake m p).c .own), []) := by
  refine F_run fn61 rfl ?_
  have w1 := law28 m hm
  have w2 := law117 m hm
  simp only [Mate.c] at w1 w2
  have hr := hm.runs
  simp [c61, w1, mateTake]
  cases hv : mateValid m <;> simp
  · simp [Mate.zero]
  simp [w2]
  cases q1 : m.up <;> simp [q1]
  cases q2 : sEq p.berth m.name <;> simp [q1]
  unfold takeKind
  by_cases k1 : p.kind = 1
  · have w6 := law6 p.wants (by unfold big; omega)
    have e1 : p.wants.length * 72 ≤ 140737488355328 := by omega
    have e2 : p.wants.length ≤ 140737488355328 := by omega
    simp [k1, w6, takeTold, takeRows, e1, e2]
    cases q3 : m.known <;> simp [q1, q3]
    · cases q5 : wantsOk p.wants <;> simp [q1, q3]
      cases q6 : inR p.seen 1 1000000 <;> simp [q1, q3]
    · by_cases q4 : m.seen < p.seen <;> simp [q4, q1, q3]
      cases q5 : wantsOk p.wants <;> simp [q1, q3]
      cases q6 : inR p.seen 1 1000000 <;> simp [q1, q3]
  · by_cases k3 : p.kind = 3
    · have w113 := law113 m.asks p.hold hm.asks
      rcases askAt_spec m.asks p.hold with ⟨e, hno⟩ | ⟨k, hk, e, hk1, hk2⟩
      · have hf : m.asks.find? (fun a => sEq a.hold p.hold) = none := by
          rw [List.find?_eq_none]; intro a ha; rw [hno a ha]; simp
        simp [k1, k3, w113, takeGiven, e, hf, q1]
      · have hf := find_at hk hk1 hk2
        simp only [takeGiven, hf, askFits]
        simp [k1, k3, w113, e, hk]
        cases q3 : sEq m.asks[k].copy p.copy <;> simp [q1]
        by_cases q4 : p.at_ < m.asks[k].first
        · have q4' : ¬ (m.asks[k].first ≤ p.at_) := by omega
          simp [q4, q4', q1]
        have q4' : m.asks[k].first ≤ p.at_ := by omega
        simp [q4, q4']
        by_cases q5 : m.asks[k].at_ < p.at_
        · have q5' : ¬ (p.at_ ≤ m.asks[k].at_) := by omega
          simp [q5, q5', q1]
        have q5' : p.at_ ≤ m.asks[k].at_ := by omega
        simp [q5, q5']
        refine (loop_list m.runs (fun i (_ : Unit) => head61 m p i) (fun _ _ => True) (fun _ _ _ => (.agg (({ m with runs := m.runs.map (giveRun p) } : Mate).c .own), [])) (fun acc Y _ => ?_) (fun i a r acc Y ha hi hr _ hY => ?_) () ?_ trivial ?_).trans (by simp [q1])
        · simp [head61, c61b0, zeroCells, mixU_all, q1]
        · have hw : IntKind.i64.wrap ((i : Int) + 1) = (i : Int) + 1 := i64w (by omega) (by omega)
          obtain ⟨_, hga⟩ := List.getElem?_eq_some_iff.1 ha
          have hms : (m.runs.map (giveRun p))[i]? = some (giveRun p a) := by simp [ha]
          have hln := mixU_len Run.c (ws := m.runs) (ms := m.runs.map (giveRun p)) (i := i) (by simp) (by omega)
          have hg := mixU_at Run.c (ms := m.runs.map (giveRun p)) ha (by simp) (by rw [hln]; exact hi)
          have hs := mixU_set Run.c (ws := m.runs) hms (by simp)
          simp only [Run.c] at hg
          have hY' : ∀ s', s'.norm [2, 3, 4, 101, 102, 103] = head61 m p (i + 1) → fin [CRes.cell 4 9 true] 0 (Y s') = some (.agg (({ m with runs := m.runs.map (giveRun p) } : Mate).c .own), []) := fun s' h => hY () s' trivial h
          simp [head61, c61b0, zeroCells, hi, hln, hg]
          have hsame : giveRun p a = a → mixU Run.c m.runs (m.runs.map (giveRun p)) i = mixU Run.c m.runs (m.runs.map (giveRun p)) (i + 1) := fun h => mixU_same Run.c ha (by simp [ha, h]) (by simp)
          cases r1 : sEq a.want.hold p.hold <;> simp
          · have hs2 := hsame (by simp [giveRun, r1])
            exact (hY' _ (by simp [head61, hw, zeroCells, hs2, q1, k3])).trans (by simp [q1])
          cases r2 : sEq a.want.copy p.copy <;> simp
          · have hs2 := hsame (by simp [giveRun, r1, r2])
            exact (hY' _ (by simp [head61, hw, zeroCells, hs2, q1, k3])).trans (by simp [q1])
          by_cases r3 : a.til < IntKind.i64.wrap (p.at_ + 16) <;> simp [r3]
          · have hga2 : giveRun p a = { a with til := IntKind.i64.wrap (p.at_ + 16) } := by simp [giveRun, r1, r2, r3]
            rw [hga2] at hs
            simp only [Run.c] at hs
            exact (hY' _ (by simp [head61, hw, zeroCells, hs, q1, k3])).trans (by simp [q1])
          · have hs2 := hsame (by simp [giveRun, r1, r2, r3])
            exact (hY' _ (by simp [head61, hw, zeroCells, hs2, q1, k3])).trans (by simp [q1])
        · simp [head61, zeroCells, mixU_zero, q1, k3]
        · unfold big; omega
    · by_cases k5 : p.kind = 5
      · have w113 := law113 m.gives p.hold hm.gives
        rcases askAt_spec m.gives p.hold with ⟨e, hno⟩ | ⟨k, hk, e, hk1, hk2⟩
        · have hf : m.gives.find? (fun a => sEq a.hold p.hold) = none := by
            rw [List.find?_eq_none]; intro a ha; rw [hno a ha]; simp
          simp [k1, k3, k5, w113, takeBack', e, hf, q1]
        · have hf := find_at hk hk1 hk2
          have w137 := law137 m.gives k hk hm.gives
          have hd := drop_same (valid_asks hv).2 hk
          rw [(sEq_iff _ _).1 hk1] at hd
          simp only [takeBack', hf]
          simp [k1, k3, k5, w113, e, hk]
          by_cases q3 : m.gives[k].at_ = p.at_
          · simp [q3, w137, hd, q1]
          · simp [q3, q1]
      · simp [k1, k3, k5, q1]

def head64 (m : Mate) (p : Parcel) (i : Nat) : St := hd [(3, .ptr 0 0 0), (4, .ptr 1 0 0), (5, .ptr 2 0 0), (7, .int .i64 i)]
  [.box (p.c .bor), .box zeroCells, .box [.str m.name, .bool m.up, .int .i64 m.clock, .bool m.known, .int .i64 m.seen, .ref 3, .ref 4, .ref 5, .ref 6], .arr 7 (m.wants.map Want.c), .arr 11 (mixU Run.c m.runs (m.runs.map (giveRun p)) i), .arr 4 (m.asks.map Ask.c), .arr 4 (m.gives.map Ask.c)] 0

theorem law64 (m : Mate) (p : Parcel) (hm : m.small) (hp : p.wants.length ≤ 1048576) : F 64 [.agg (m.c .bor), .agg (p.c .bor)] [] = some (.agg ((mateTake m p).c .own), []) := by
  refine F_run fn64 rfl ?_
  have w1 := law29 m hm
  have w2 := law120 m hm
  simp only [Mate.c] at w1 w2
  have hr := hm.runs
  simp [c64, w1, mateTake]
  cases hv : mateValid m <;> simp
  · simp [Mate.zero]
  simp [w2]
  cases q1 : m.up <;> simp [q1]
  cases q2 : sEq p.berth m.name <;> simp [q1]
  unfold takeKind
  by_cases k1 : p.kind = 1
  · have w6 := law7 p.wants (by unfold big; omega)
    have e1 : p.wants.length * 72 ≤ 140737488355328 := by omega
    have e2 : p.wants.length ≤ 140737488355328 := by omega
    simp [k1, w6, takeTold, takeRows, e1, e2]
    cases q5 : wantsOk p.wants <;> simp [q1]
    cases q6 : inR p.seen 1 1000000 <;> simp [q1]
    cases q3 : m.known <;> simp [q1, q3]
    by_cases q4 : m.seen < p.seen <;> simp [q4, q1, q3]
  · by_cases k3 : p.kind = 3
    · have w113 := law110 m.asks p.hold hm.asks
      rcases askAt_spec m.asks p.hold with ⟨e, hno⟩ | ⟨k, hk, e, hk1, hk2⟩
      · have hf : m.asks.find? (fun a => sEq a.hold p.hold) = none := by
          rw [List.find?_eq_none]; intro a ha; rw [hno a ha]; simp
        simp [k1, k3, w113, takeGiven, e, hf, q1]
      · have hf := find_at hk hk1 hk2
        simp only [takeGiven, hf, askFits]
        simp [k1, k3, w113, e, hk, inR]
        cases q3 : sEq m.asks[k].copy p.copy <;> simp [q1]
        by_cases q4 : p.at_ < m.asks[k].first
        · have q4' : ¬ (m.asks[k].first ≤ p.at_) := by omega
          simp [q4, q4', q1]
        have q4' : m.asks[k].first ≤ p.at_ := by omega
        simp [q4, q4']
        by_cases q5 : m.asks[k].at_ < p.at_
        · have q5' : ¬ (p.at_ ≤ m.asks[k].at_) := by omega
          simp [q5, q5', q1]
        have q5' : p.at_ ≤ m.asks[k].at_ := by omega
        simp [q5, q5']
        refine (loop_list m.runs (fun i (_ : Unit) => head64 m p i) (fun _ _ => True) (fun _ _ _ => (.agg (({ m with runs := m.runs.map (giveRun p) } : Mate).c .own), [])) (fun acc Y _ => ?_) (fun i a r acc Y ha hi hr _ hY => ?_) () ?_ trivial ?_).trans (by simp [q1])
        · have hln := mixU_len Run.c (ws := m.runs) (ms := m.runs.map (giveRun p)) (i := m.runs.length) (by simp) (by omega)
          simp [head64, c64b0, zeroCells, hln]
          simp [mixU_all, q1]
        · have hw : IntKind.i64.wrap ((i : Int) + 1) = (i : Int) + 1 := i64w (by omega) (by omega)
          obtain ⟨_, hga⟩ := List.getElem?_eq_some_iff.1 ha
          have hms : (m.runs.map (giveRun p))[i]? = some (giveRun p a) := by simp [ha]
          have hln := mixU_len Run.c (ws := m.runs) (ms := m.runs.map (giveRun p)) (i := i) (by simp) (by omega)
          have hg := mixU_at Run.c (ms := m.runs.map (giveRun p)) ha (by simp) (by rw [hln]; exact hi)
          have hs := mixU_set Run.c (ws := m.runs) hms (by simp)
          simp only [Run.c] at hg
          have hY' : ∀ s', s'.norm [3, 4, 5, 7] = head64 m p (i + 1) → fin [CRes.cell 4 9 true] 0 (Y s') = some (.agg (({ m with runs := m.runs.map (giveRun p) } : Mate).c .own), []) := fun s' h => hY () s' trivial h
          simp [head64, c64b0, zeroCells, hi, hln, hg]
          have hsame : giveRun p a = a → mixU Run.c m.runs (m.runs.map (giveRun p)) i = mixU Run.c m.runs (m.runs.map (giveRun p)) (i + 1) := fun h => mixU_same Run.c ha (by simp [ha, h]) (by simp)
          cases r1 : sEq a.want.hold p.hold <;> simp
          · have hs2 := hsame (by simp [giveRun, r1])
            exact (hY' _ (by simp [head64, hw, zeroCells, hs2, q1, k3])).trans (by simp [q1])
          cases r2 : sEq a.want.copy p.copy <;> simp
          · have hs2 := hsame (by simp [giveRun, r1, r2])
            exact (hY' _ (by simp [head64, hw, zeroCells, hs2, q1, k3])).trans (by simp [q1])
          by_cases r3 : a.til < IntKind.i64.wrap (p.at_ + 16) <;> simp [r3]
          · have hga2 : giveRun p a = { a with til := IntKind.i64.wrap (p.at_ + 16) } := by simp [giveRun, r1, r2, r3]
            rw [hga2] at hs
            simp only [Run.c] at hs
            exact (hY' _ (by simp [head64, hw, zeroCells, hs, q1, k3])).trans (by simp [q1])
          · have hs2 := hsame (by simp [giveRun, r1, r2, r3])
            exact (hY' _ (by simp [head64, hw, zeroCells, hs2, q1, k3])).trans (by simp [q1])
        · simp [head64, zeroCells, mixU_zero, q1, k3]
        · unfold big; omega
    · by_cases k5 : p.kind = 5
      · have w113 := law110 m.gives p.hold hm.gives
        rcases askAt_spec m.gives p.hold with ⟨e, hno⟩ | ⟨k, hk, e, hk1, hk2⟩
        · have hf : m.gives.find? (fun a => sEq a.hold p.hold) = none := by
            rw [List.find?_eq_none]; intro a ha; rw [hno a ha]; simp
          simp [k1, k3, k5, w113, takeBack', e, hf, q1]
        · have hf := find_at hk hk1 hk2
          have w136 := law136 m.gives p.hold hm.gives
          simp only [takeBack', hf]
          simp [k1, k3, k5, w113, e, hk]
          by_cases q3 : m.gives[k].at_ = p.at_
          · simp [q3, w136, q1]
          · simp [q3, q1]
      · simp [k1, k3, k5, q1]
end Go.Proofs.YtpiljklnekefoaaGreatDoor

namespace Go.Proofs.YtpiljklnekefoaaGreatDoor
open Go
set_option linter.unusedSimpArgs false
set_option maxRecDepth 100000

def Ask.k (a : Ask) : T := a.hold

theorem law219 (l : List Ask) (a : Ask) (hl : l.length ≤ 1000) (ha : Asc Ask.k l) (hk : Lacks Ask.k a.hold l) : F 219 [.ref 0, .agg a.c] [.arr 4 (l.map Ask.c)] = some (.sl .own 4 ((putBy Ask.k a l).map Ask.c), [none]) := by
  refine F_run fn219 rfl ?_
  obtain ⟨s1, s2⟩ := sort_typed Ask.c Ask.k 0 (fun _ => rfl) (putBy_perm Ask.k (x := a) (l := l) hk) (putBy_asc Ask.k ha)
  simp only [List.map_append, List.map_cons, List.map_nil, Ask.c] at s1 s2
  have e1 : (l.length + 1) * 48 ≤ 140737488355328 := by omega
  have e2 : l.length + 1 ≤ 140737488355328 := by omega
  have e3 : l.length + 1 ≤ 1000000000 := by omega
  have e4 : rowsPlain [[AV.str a.hold, .str a.copy, .int .i64 a.first, .int .i64 a.at_]] = true := by simp [rowsPlain]
  simp [c219, takeRows, e1, e2, e3, e4, isRef, sortTab, s1, s2]

def head241 (l : List Ask) (a : Ask) (k : Nat) : St := hd [(0, .sl .bor 4 (l.map Ask.c)), (3, .ptr 0 0 0), (5, .int .i64 k)] [.box a.c] 0

theorem law241 (l : List Ask) (a : Ask) (hl : l.length ≤ 1000) : F 241 [.sl .bor 4 (l.map Ask.c), .agg a.c] [] = some (.sl .own 4 ((putBy Ask.k a l).map Ask.c), []) := by
  refine F_run fn241 rfl ?_
  simp [c241]
  have hK := ltCount_le Ask.k a.hold l
  have hat := fun i y => ltCount_at Ask.k (b := a.hold) (l := l) (i := i) (y := y)
  have hst := fun y => ltCount_stop Ask.k (b := a.hold) (l := l) (y := y)
  have hpt : putBy Ask.k a l = l.take (ltCount Ask.k a.hold l) ++ a :: l.drop (if hitAt Ask.k a.hold l then ltCount Ask.k a.hold l + 1 else ltCount Ask.k a.hold l) := putBy_take Ask.k a l
  have hhit : hitAt Ask.k a.hold l = match l[ltCount Ask.k a.hold l]? with
    | some y => sEq y.hold a.hold
    | none => false := by unfold hitAt; cases l[ltCount Ask.k a.hold l]? <;> rfl
  obtain ⟨R, hR⟩ : ∃ R, R = (putBy Ask.k a l).map Ask.c := ⟨_, rfl⟩
  rw [← hR]
  rw [hpt] at hR
  generalize ltCount Ask.k a.hold l = K at *
  refine (loop_by (σ := Nat) (fun k => head241 l a k) (fun k => k ≤ K) (fun k => K - k) (fun _ => _) (fun k Y hk hY => ?_) 0 ?_ (Nat.zero_le _) ?_).trans rfl
  · have hw1 : IntKind.i64.wrap ((k : Int) + 1) = (k : Int) + 1 := i64w (by omega) (by omega)
    rcases Nat.lt_or_ge k K with h | h
    · have hkl : k < l.length := by omega
      have hklI : (k : Int) < l.length := by omega
      have hx : l[k]? = some l[k] := List.getElem?_eq_getElem hkl
      have hlt := hat k _ h hx
      unfold Ask.k at hlt
      simp [head241, c241b0, hklI, hkl, hlt]
      refine hY (k + 1) _ (by omega) (by omega) ?_
      simp [head241, hw1]
    · obtain rfl : k = K := by omega
      have f1 : k * 48 ≤ 140737488355328 := by omega
      have f2 : k ≤ 140737488355328 := by omega
      have f3 : (k + 1) * 48 ≤ 140737488355328 := by omega
      have f4 : k + 1 ≤ 140737488355328 := by omega
      have hklI : (k : Int) ≤ l.length := by omega
      have hmin : min k l.length = k := Nat.min_eq_left hK
      have r1 : rowsPlain [[AV.str a.hold, .str a.copy, .int .i64 a.first, .int .i64 a.at_]] = true := by simp [rowsPlain]
      rcases Nat.lt_or_ge k l.length with hkl | hkl
      · have hx : l[k]? = some l[k] := List.getElem?_eq_getElem hkl
        have hns := hst _ hx
        unfold Ask.k at hns
        have hkI : (k : Int) < l.length := by omega
        rw [hx] at hhit
        simp only at hhit
        rw [hhit] at hR
        have g5 : (k + 1 + (l.length - (k + 1))) * 48 ≤ 140737488355328 := by omega
        have g6 : k + 1 + (l.length - (k + 1)) ≤ 140737488355328 := by omega
        have hpos : 0 < l.length - k := by omega
        have hposI : (0 : Int) < ((l.length - k : Nat) : Int) := by omega
        have h1I : (1 : Int) ≤ ((l.length - k : Nat) : Int) := by omega
        have g1 : (k + 1 + (l.length - k)) * 48 ≤ 140737488355328 := by omega
        have g2 : k + 1 + (l.length - k) ≤ 140737488355328 := by omega
        have g3 : (k + 1 + (l.length - k - 1)) * 48 ≤ 140737488355328 := by omega
        have g4 : k + 1 + (l.length - k - 1) ≤ 140737488355328 := by omega
        have t3 : ((l.map Ask.c).drop k).take (l.length - k) = (l.map Ask.c).drop k := List.take_of_length_le (by simp)
        have t5 : ((l.map Ask.c).drop (k + 1)).take (l.length - k - 1) = (l.map Ask.c).drop (k + 1) := List.take_of_length_le (by simp; omega)
        cases hc : sEq l[k].hold a.hold
        · rw [hc] at hR
          simp [head241, c241b0, takeRows, rowsN, r1, rowsPlain_take, rowsPlain_drop, slBounds, hK, hkI, hkl, hns, hc, hpos, hposI, f1, f2, f3, f4, g1, g2, hklI, hmin, t3, hR]
        · rw [hc] at hR
          simp [head241, c241b0, takeRows, rowsN, r1, rowsPlain_take, rowsPlain_drop, slBounds, hK, hkI, hkl, hns, hc, hpos, hposI, h1I, f1, f2, f3, f4, g1, g2, g3, g4, g5, g6, hklI, hmin, t3, t5, hR]
      · have hkI : ¬ (k : Int) < l.length := by omega
        obtain rfl : l.length = k := by omega
        have hx : l[l.length]? = none := by simp
        rw [hx] at hhit
        simp only at hhit
        rw [hhit] at hR
        have t7 : (l.map Ask.c).take l.length = l.map Ask.c := List.take_of_length_le (by simp)
        simp [head241, c241b0, takeRows, rowsN, r1, rowsPlain_take, rowsPlain_drop, slBounds, f1, f2, f3, f4, hR, t7]
  · simp [head241]
  · unfold big; omega
end Go.Proofs.YtpiljklnekefoaaGreatDoor

namespace Go.Proofs.YtpiljklnekefoaaGreatDoor
open Go
set_option linter.unusedSimpArgs false
set_option maxRecDepth 100000

def Run.k (r : Run) : T := r.want.copy
structure Sane (r : Run) : Prop where
  left : 0 ≤ r.left ∧ r.left ≤ 100
  falls : 0 ≤ r.falls ∧ r.falls ≤ 1000

structure LV where
  runs : List Run
  asks : List Ask
  gives : List Ask

def liveOf (c : Int) (ws : List Want) (r : Run) : Option Run := mateLive r ((findW ws r.want.copy).getD .zero) (findW ws r.want.copy).isSome c
def askOf (h : T) (l : List Ask) : Option Ask := l.find? fun a => sEq a.hold h
def giveUp (h : T) (s : LV) : LV := if sEq h ⟨#[]⟩ then s else match askOf h s.asks with
  | none => s
  | some a => ⟨s.runs, dropHold s.asks h, if s.gives.length < 40 then putBy Ask.k a s.gives else s.gives⟩
def liveStep (c : Int) (ws : List Want) (s : LV) (r : Run) : LV := match liveOf c ws r with
  | some n => ⟨s.runs ++ [n], s.asks, s.gives⟩
  | none => giveUp r.want.hold s
def newRun (w : Want) : Run := ⟨w, 1, w.pull, 0, 0⟩
def addRun (rs : List Run) (w : Want) : List Run := if 20 ≤ rs.length || rs.any (fun r => sEq r.want.copy w.copy) then rs else putBy Run.k (newRun w) rs
def livesOf (m : Mate) : LV := m.runs.foldl (liveStep m.clock m.wants) ⟨[], m.asks, m.gives⟩
def mLives (m : Mate) : Mate := { m with runs := m.wants.foldl addRun (livesOf m).runs, asks := (livesOf m).asks, gives := (livesOf m).gives }

theorem askOf_at (l : List Ask) (h : T) : (askAt l h = -1 ∧ askOf h l = none) ∨ ∃ k, ∃ hk : k < l.length, askAt l h = (k : Int) ∧ askOf h l = some (l[k]'hk) ∧ (l[k]'hk).hold = h := by
  unfold askAt askOf
  have key : ∀ (l : List Ask) (i : Nat), (askAtGo h l i = -1 ∧ l.find? (fun a => sEq a.hold h) = none) ∨ ∃ k, ∃ hk : k < l.length, askAtGo h l i = ((i + k : Nat) : Int) ∧ l.find? (fun a => sEq a.hold h) = some (l[k]'hk) ∧ (l[k]'hk).hold = h := by
    intro l
    induction l with
    | nil => intro i; exact .inl ⟨rfl, rfl⟩
    | cons a r ih =>
      intro i
      unfold askAtGo
      rw [List.find?_cons]
      cases q : sEq a.hold h
      · rcases ih (i + 1) with ⟨h1, h2⟩ | ⟨k, hk, h1, h2, h3⟩
        · exact .inl ⟨by simpa using h1, by simpa using h2⟩
        · refine .inr ⟨k + 1, by simpa using hk, ?_, by simpa using h2, by simpa using h3⟩
          simp only [Bool.false_eq_true, if_false, h1]
          congr 1
          omega
      · exact .inr ⟨0, by simp, by simp, by simp, by simpa using (sEq_iff _ _).1 q⟩
  simpa using key l 0

theorem addRun_len {rs : List Run} {w : Want} (h : rs.length ≤ 20) : (addRun rs w).length ≤ 20 := by
  unfold addRun
  by_cases h1 : (20 ≤ rs.length || rs.any fun r => sEq r.want.copy w.copy) = true
  · simp [h1, h]
  · simp only [h1, Bool.false_eq_true, if_false]
    simp only [Bool.or_eq_true, decide_eq_true_eq, not_or] at h1
    have := putBy_len Run.k (newRun w) rs
    omega

theorem addRun_asc {rs : List Run} {w : Want} (h : Asc Run.k rs) : Asc Run.k (addRun rs w) := by
  unfold addRun
  split
  · exact h
  · exact putBy_asc Run.k h

theorem hitAt_any {α : Type} (key : α → T) (b : T) : ∀ {l : List α}, Asc key l → hitAt key b l = l.any fun y => sEq (key y) b
  | [], _ => rfl
  | y :: ys, h => by
    have h1 := List.pairwise_cons.1 h
    by_cases h2 : sLt (key y) b = true
    · have e1 : ltCount key b (y :: ys) = ltCount key b ys + 1 := by simp [ltCount, h2]
      have e2 : hitAt key b (y :: ys) = hitAt key b ys := by simp [hitAt, e1]
      rw [e2, List.any_cons, hitAt_any key b h1.2, sEq_ne (fun e => by rw [e, sLt_irrefl] at h2; cases h2)]
      rfl
    · have e1 : ltCount key b (y :: ys) = 0 := by simp [ltCount, h2]
      have e2 : hitAt key b (y :: ys) = sEq (key y) b := by simp [hitAt, e1]
      have e3 : (ys.any fun z => sEq (key z) b) = false := by
        rw [List.any_eq_false]
        intro z hz e
        have := h1.1 z hz
        rw [(sEq_iff _ _).1 e] at this
        exact h2 this
      rw [e2, List.any_cons, e3, Bool.or_false]

def tl238 : CCode := (.seq (.region [
    ⟨some 152, .mov (.tmp 3), none⟩,
    ⟨some 153, .faddr (.tmp 1) 6, none⟩,
    ⟨none, .store (.tmp 153) (.tmp 152) 1, none⟩] [1, 2])
  (.seq (.region [
    ⟨some 154, .load (.tmp 1) 9 true .plain, none⟩,
    ⟨none, .store (.tmp 2) (.tmp 154) 9, none⟩] [2])
  .ret))
theorem c238_cut : c238 = ⟨155, [.cell 2 9 true],
  (.seq (.region [
    ⟨some 1, .box (.tmp 0), none⟩,
    ⟨some 2, .alloc [.str ⟨#[]⟩, .bool false, .int .i64 0, .bool false, .int .i64 0, .sl .own 7 [], .sl .own 11 [], .sl .own 4 [], .sl .own 4 []], none⟩] [1, 2])
  (.seq (.region [
    ⟨some 14, .bslice 11 [.str ⟨#[]⟩, .int .i64 0, .str ⟨#[]⟩, .int .i64 0, .int .i64 0, .int .i64 0, .int .i64 0, .int .i64 0, .int .i64 0, .int .i64 0, .int .i64 0] 0 [], none⟩,
    ⟨some 3, .mov (.tmp 14), none⟩] [1, 2, 3])
  (.seq (.seq (.region [
    ⟨some 4, .mov (.const (.int .i64 0)), none⟩] [1, 2, 3, 4])
  (.block 0
    (.loop [1, 2, 3, 4] c238b0)))
  (.seq (.seq (.region [
    ⟨some 11, .mov (.const (.int .i64 0)), none⟩] [1, 2, 3, 11])
  (.block 2
    (.loop [1, 2, 3, 11] c238b2)))
  tl238))))⟩ := rfl

def md238 : CCode := (.seq (.seq (.quiet [
      ⟨some 117, .mov (.tmp 3), none⟩,
      ⟨some 118, .len false (.tmp 117), none⟩,
      ⟨some 119, .bin .geq (.tmp 118) (.const (.int .i64 20)), none⟩,
      ⟨some 120, .mov (.tmp 119), none⟩,
      ⟨some 121, .mov (.tmp 13), some (120, false)⟩,
      ⟨some 122, .mov (.tmp 3), some (120, false)⟩,
      ⟨some 123, .len false (.tmp 122), some (120, false)⟩,
      ⟨some 124, .bin .lss (.tmp 121) (.tmp 123), some (120, false)⟩,
      ⟨some 125, .mov (.tmp 124), some (120, false)⟩,
      ⟨some 126, .mov (.tmp 3), some (125, true)⟩,
      ⟨some 127, .mov (.tmp 13), some (125, true)⟩,
      ⟨some 128, .iaddr 11 (.tmp 126) (.tmp 127), some (125, true)⟩,
      ⟨some 129, .faddr (.tmp 128) 0, some (125, true)⟩,
      ⟨some 130, .faddr (.tmp 129) 0, some (125, true)⟩,
      ⟨some 131, .load (.tmp 130) 1 false .plain, some (125, true)⟩,
      ⟨some 132, .faddr (.tmp 12) 0, some (125, true)⟩,
      ⟨some 133, .load (.tmp 132) 1 false .plain, some (125, true)⟩,
      ⟨some 134, .bin .eql (.tmp 131) (.tmp 133), some (125, true)⟩,
      ⟨some 135, .pick (.tmp 125) (.tmp 134) (.const (.bool false)), some (120, false)⟩,
      ⟨some 136, .pick (.tmp 120) (.const (.bool true)) (.tmp 135), none⟩] [1, 2, 3, 11, 12, 13, 136])
    (.cond (.tmp 136)
      (.exit 3)
      .skip))
    (.loud [
      ⟨some 137, .bslice 11 [.str ⟨#[]⟩, .int .i64 0, .str ⟨#[]⟩, .int .i64 0, .int .i64 0, .int .i64 0, .int .i64 0, .int .i64 0, .int .i64 0, .int .i64 0, .int .i64 0] 0 [], none⟩,
      ⟨some 138, .mov (.tmp 3), none⟩,
      ⟨some 139, .mov (.tmp 13), none⟩,
      ⟨some 140, .slice 11 (.tmp 138) none (some (.tmp 139)), none⟩,
      ⟨some 141, .append 11 104 true (.tmp 137) (.tmp 140), none⟩,
      ⟨some 142, .load (.tmp 12) 7 true .plain, none⟩,
      ⟨some 143, .faddr (.tmp 12) 3, none⟩,
      ⟨some 144, .load (.tmp 143) 1 false .plain, none⟩,
      ⟨some 145, .build [.str ⟨#[]⟩, .int .i64 0, .str ⟨#[]⟩, .int .i64 0, .int .i64 0, .int .i64 0, .int .i64 0, .int .i64 0, .int .i64 0, .int .i64 0, .int .i64 0] [(0, 7, .tmp 142), (7, 1, .const (.int .i64 1)), (8, 1, .tmp 144)], none⟩,
      ⟨some 146, .bslice 11 [.str ⟨#[]⟩, .int .i64 0, .str ⟨#[]⟩, .int .i64 0, .int .i64 0, .int .i64 0, .int .i64 0, .int .i64 0, .int .i64 0, .int .i64 0, .int .i64 0] 1 [(0, .tmp 145)], none⟩,
      ⟨some 147, .append 11 104 true (.tmp 141) (.tmp 146), none⟩,
      ⟨some 148, .mov (.tmp 3), none⟩,
      ⟨some 149, .mov (.tmp 13), none⟩,
      ⟨some 150, .slice 11 (.tmp 148) (some (.tmp 149)) none, none⟩,
      ⟨some 151, .append 11 104 true (.tmp 147) (.tmp 150), none⟩,
      ⟨some 3, .mov (.tmp 151), none⟩] [0, 0, 0, 6, 15, 0, 0, 64, 224, 480, 1023, 0, 0, 6144, 16383, 32767] [1, 2, 3, 11]))
def en238 : CCode := (.region [
    ⟨some 93, .mov (.tmp 11), none⟩,
    ⟨some 94, .bin .add (.tmp 93) (.const (.int .i64 1)), none⟩,
    ⟨some 11, .mov (.tmp 94), none⟩] [1, 2, 3, 11])

def zeroM : List AV := [.str ⟨#[]⟩, .bool false, .int .i64 0, .bool false, .int .i64 0, .sl .own 7 [], .sl .own 11 [], .sl .own 4 [], .sl .own 4 []]
def mcells (n : Nat) (f : Bool) (m : Mate) : List AV := [.str m.name, .bool m.up, .int .i64 m.clock, .bool m.known, .int .i64 m.seen, .ref 0, .ref 1, if f then .ref n else .ref 2, if f then .ref (n + 1) else .ref 3]
def marrs (f : Bool) (as gs : List Ask) : List AO := if f then [.arr 4 (as.map Ask.c), .arr 4 (gs.map Ask.c)] else []

def head238a (m : Mate) (f : Bool) (s : LV) (i : Nat) : St :=
  hd [(1, .ptr 4 0 0), (2, .ptr 5 0 0), (3, .ref 6), (4, .int .i64 i)] (m.arrs ++ [.box (mcells 7 f m), .box zeroM, .arr 11 (s.runs.map Run.c)] ++ marrs f s.asks s.gives) 4
def head238b (m : Mate) (f : Bool) (as gs : List Ask) (rs : List Run) (i : Nat) : St :=
  hd [(1, .ptr 4 0 0), (2, .ptr 5 0 0), (3, .ref 6), (11, .int .i64 i)] (m.arrs ++ [.box (mcells 7 f m), .box zeroM, .arr 11 (rs.map Run.c)] ++ marrs f as gs) 4
def head238c (m : Mate) (f : Bool) (as gs : List Ask) (rs : List Run) (w : Want) (i j : Nat) : St :=
  hd [(1, .ptr 4 0 0), (2, .ptr 5 0 0), (3, .ref 6), (11, .int .i64 i), (12, .ptr 7 0 0), (13, .int .i64 j)] (m.arrs ++ [.box (mcells 8 f m), .box zeroM, .arr 11 (rs.map Run.c), .box w.c] ++ marrs f as gs) 4

def Kept (m : Mate) (f : Bool) (as gs : List Ask) : Prop := f = false → as = m.asks ∧ gs = m.gives

theorem keptT {m : Mate} {as gs : List Ask} : Kept m true as gs := fun h => by cases h

def Res238 (m : Mate) (r : AV × List (Option AO)) : Prop := ∃ f : Bool, r = (.agg ((mLives m).c .own), [none, some (.arr 11 (m.runs.map Run.c)), if f then some (.arr 4 (m.asks.map Ask.c)) else none, if f then some (.arr 4 (m.gives.map Ask.c)) else none])

theorem livesOf_len (c : Int) (ws : List Want) : ∀ (rs : List Run) (s : LV), (rs.foldl (liveStep c ws) s).runs.length ≤ s.runs.length + rs.length
  | [], s => by simp
  | r :: rs, s => by
    have h1 : (liveStep c ws s r).runs.length ≤ s.runs.length + 1 := by
      unfold liveStep
      split
      · simp
      · unfold giveUp
        split
        · omega
        · split <;> simp
    have := livesOf_len c ws rs (liveStep c ws s r)
    simp only [List.foldl_cons, List.length_cons]
    omega

theorem mateLive_copy {r n : Run} {w : Want} {b : Bool} {c : Int} (h : mateLive r w b c = some n) : n.want = r.want := by
  unfold mateLive at h
  split at h
  · split at h
    · obtain rfl := Option.some.inj h; rfl
    · cases h
  split at h
  · obtain rfl := Option.some.inj h; rfl
  split at h
  · obtain rfl := Option.some.inj h; rfl
  split at h
  · split at h
    · obtain rfl := Option.some.inj h; rfl
    · obtain rfl := Option.some.inj h; rfl
  split at h
  · cases h
  split at h
  · obtain rfl := Option.some.inj h
    unfold beginR
    split <;> rfl
  · obtain rfl := Option.some.inj h; rfl

theorem liveStep_runs (c : Int) (ws : List Want) : ∀ (rs : List Run) (s : LV), ∃ l : List Run, (rs.foldl (liveStep c ws) s).runs = s.runs ++ l ∧ (l.map Run.k).Sublist (rs.map Run.k)
  | [], s => ⟨[], by simp, List.Sublist.refl _⟩
  | r :: rs, s => by
    obtain ⟨l, h1, h2⟩ := liveStep_runs c ws rs (liveStep c ws s r)
    simp only [List.foldl_cons, List.map_cons]
    cases ho : liveOf c ws r with
    | some n =>
      have e : (liveStep c ws s r).runs = s.runs ++ [n] := by unfold liveStep; rw [ho]
      rw [e] at h1
      refine ⟨n :: l, by rw [h1]; simp, ?_⟩
      have hk : Run.k n = Run.k r := by unfold Run.k; rw [mateLive_copy ho]
      rw [List.map_cons, hk]
      exact h2.cons_cons _
    | none =>
      have e : (liveStep c ws s r).runs = s.runs := by
        unfold liveStep
        rw [ho]
        simp only
        unfold giveUp
        split
        · rfl
        · split <;> rfl
      rw [e] at h1
      exact ⟨l, h1, h2.cons _⟩

theorem asc_map {α : Type} {key : α → T} {l : List α} : Asc key l ↔ (l.map key).Pairwise (fun a b => sLt a b = true) := by
  unfold Asc
  rw [List.pairwise_map]

theorem livesOf_asc {m : Mate} (h : Asc Run.k m.runs) : Asc Run.k (livesOf m).runs := by
  obtain ⟨l, h1, h2⟩ := liveStep_runs m.clock m.wants m.runs ⟨[], m.asks, m.gives⟩
  unfold livesOf
  rw [h1, List.nil_append]
  exact asc_map.2 ((asc_map.1 h).sublist h2)

set_option maxHeartbeats 0 in
/-- The second loop: those begin that are wanted. -/
theorem rest238 (m : Mate) (_ : m.small) (hwl : m.wants.length ≤ 1000) (f : Bool) (as gs : List Ask) (rs : List Run) (hk : Kept m f as gs) (hr : rs.length ≤ 20) (ha : Asc Run.k rs) (hs : livesOf m = ⟨rs, as, gs⟩) (st : St) (hst : st.norm [1, 2, 3, 11] = head238b m f as gs rs 0) :
    Ends (fin [.cell 2 9 true] 4 (X F [.code (.loop [1, 2, 3, 11] c238b2), .blk 2, .code tl238] (.normal, st))) (Res238 m) := by
  refine loop_end (σ := Nat × List Run) (fun z => head238b m f as gs z.2 z.1) (fun z => z.1 ≤ m.wants.length ∧ z.2 = (m.wants.take z.1).foldl addRun rs ∧ z.2.length ≤ 20 ∧ Asc Run.k z.2) (fun z => m.wants.length - z.1) (fun z Y hinv hY => ?_) (0, rs) hst ⟨by omega, rfl, hr, ha⟩ (by unfold big; simp only; omega)
  obtain ⟨i, xs⟩ := z
  obtain ⟨g1, g2, g3, g4⟩ := hinv
  simp only at g1 g2 g3 g4 hY ⊢
  by_cases hi : i < m.wants.length
  · have hiI : (i : Int) < m.wants.length := by omega
    have hw : IntKind.i64.wrap ((i : Int) + 1) = (i : Int) + 1 := i64w (by omega) (by omega)
    obtain ⟨w, hgw⟩ : ∃ w, m.wants[i] = w := ⟨_, rfl⟩
    have hwi : m.wants[i]? = some w := by rw [← hgw]; exact List.getElem?_eq_getElem hi
    have htk : m.wants.take (i + 1) = m.wants.take i ++ [w] := by rw [List.take_add_one, hwi]; rfl
    have hnx : (m.wants.take (i + 1)).foldl addRun rs = addRun xs w := by rw [htk, List.foldl_append, ← g2]; rfl
    have hK := ltCount_le Run.k w.copy xs
    have hat := fun i y => ltCount_at Run.k (b := w.copy) (l := xs) (i := i) (y := y)
    have hst := fun y => ltCount_stop Run.k (b := w.copy) (l := xs) (y := y)
    have hpt : putBy Run.k (newRun w) xs = xs.take (ltCount Run.k w.copy xs) ++ newRun w :: xs.drop (if hitAt Run.k w.copy xs then ltCount Run.k w.copy xs + 1 else ltCount Run.k w.copy xs) := putBy_take Run.k (newRun w) xs
    have hhit : hitAt Run.k w.copy xs = match xs[ltCount Run.k w.copy xs]? with
      | some y => sEq y.want.copy w.copy
      | none => false := by unfold hitAt; cases xs[ltCount Run.k w.copy xs]? <;> rfl
    have hany : hitAt Run.k w.copy xs = xs.any fun r => sEq r.want.copy w.copy := hitAt_any Run.k w.copy g4
    have hadd : addRun xs w = if 20 ≤ xs.length || hitAt Run.k w.copy xs then xs else putBy Run.k (newRun w) xs := by rw [hany]; rfl
    have hal := addRun_len (w := w) g3
    have haa := addRun_asc (w := w) g4
    generalize ltCount Run.k w.copy xs = K at *
    generalize hitAt Run.k w.copy xs = H at *
    have mid : ∀ st, st.norm [1, 2, 3, 11, 12, 13] = head238c m f as gs xs w i 0 → Ends (fin [.cell 2 9 true] 4 (X F [.code (.loop [1, 2, 3, 11, 12, 13] c238b1), .blk 4, .code md238, .blk 3, .code en238, .back Y, .blk 2, .code tl238] (.normal, st))) (Res238 m) := fun st hst2 => by
      refine loop_end (σ := Nat) (fun k => head238c m f as gs xs w i k) (fun k => k ≤ K) (fun k => K - k) (fun k Y2 hk hY2 => ?_) 0 hst2 (Nat.zero_le _) (by unfold big; omega)
      have hw1 : IntKind.i64.wrap ((k : Int) + 1) = (k : Int) + 1 := i64w (by omega) (by omega)
      rcases Nat.lt_or_ge k K with h | h
      · have hkl : k < xs.length := by omega
        have hklI : (k : Int) < xs.length := by omega
        have hx : xs[k]? = some xs[k] := List.getElem?_eq_getElem hkl
        have hlt := hat k _ h hx
        unfold Run.k at hlt
        cases f <;> simp [head238c, mcells, marrs, Mate.arrs, c238b1, hklI, hkl, hlt] <;> refine hY2 (k + 1) _ (by omega) (by omega) ?_ <;> simp [head238c, mcells, marrs, Mate.arrs, zeroM, hw1, List.range, List.range.loop]
      · obtain rfl : k = K := by omega
        have hskip : addRun xs w = xs → ∀ st, st.norm [1, 2, 3, 11] = head238b m f as gs xs (i + 1) → Ends (fin [.cell 2 9 true] 4 (Y st)) (Res238 m) := fun h st hn => hY (i + 1, xs) st ⟨by simp only; omega, by rw [hnx, h], g3, g4⟩ (by simp only; omega) hn
        by_cases hkl : k < xs.length
        · have hklI : (k : Int) < xs.length := by omega
          have hx : xs[k]? = some xs[k] := List.getElem?_eq_getElem hkl
          have hns := hst _ hx
          unfold Run.k at hns
          rw [hx] at hhit
          simp only at hhit
          by_cases h20 : 20 ≤ xs.length
          · have h20I : (20 : Int) ≤ xs.length := by omega
            have hs0 := hskip (by rw [hadd]; simp [h20])
            cases f <;> simp [head238c, mcells, marrs, Mate.arrs, c238b1, md238, en238, hklI, hkl, hns, h20I] <;> refine hs0 _ ?_ <;> simp [head238b, mcells, marrs, Mate.arrs, zeroM, hw, List.range, List.range.loop]
          · have h20I : ¬ (20 : Int) ≤ xs.length := by omega
            cases hc : sEq xs[k].want.copy w.copy
            · rw [hc] at hhit
              subst hhit
              have hput : addRun xs w = xs.take k ++ newRun w :: xs.drop k := by rw [hadd, hpt]; simp [h20]
              have e1 : k * 104 ≤ 140737488355328 := by omega
              have e2 : k ≤ 140737488355328 := by omega
              have e3 : (k + 1) * 104 ≤ 140737488355328 := by omega
              have e4 : k + 1 ≤ 140737488355328 := by omega
              have e5 : (k + 1 + (xs.length - k)) * 104 ≤ 140737488355328 := by omega
              have e6 : k + 1 + (xs.length - k) ≤ 140737488355328 := by omega
              have hkle : k ≤ xs.length := by omega
              have hkleI : (k : Int) ≤ xs.length := by omega
              have hmin : min k xs.length = k := Nat.min_eq_left hkle
              have hsum : k + (xs.length - k) = xs.length := by omega
              have t3 : ((xs.map Run.c).drop k).take (xs.length - k) = (xs.map Run.c).drop k := List.take_of_length_le (by simp)
              have rp : rowsPlain [[AV.str w.copy, .int .i64 w.version, .str w.hold, .int .i64 w.pull, .int .i64 w.start, .int .i64 w.dies, .int .i64 w.grace, .int .i64 1, .int .i64 w.pull, .int .i64 0, .int .i64 0]] = true := plain_run [newRun w]
              have hs0 := hY (i + 1, addRun xs w)
              cases f <;> simp [head238c, mcells, marrs, Mate.arrs, c238b1, md238, en238, hklI, hkl, hns, h20I, hc, takeRows, rowsN, rp, rowsPlain_take, rowsPlain_drop, slBounds, e1, e2, e3, e4, e5, e6, hkle, hkleI, hmin, hsum, t3] <;> refine hs0 _ ⟨by simp only; omega, by rw [hnx], hal, haa⟩ (by simp only; omega) ?_ <;> simp [head238b, mcells, marrs, Mate.arrs, zeroM, hw, List.range, List.range.loop, hput, newRun]
            · rw [hc] at hhit
              subst hhit
              have hs0 := hskip (by rw [hadd]; simp)
              cases f <;> simp [head238c, mcells, marrs, Mate.arrs, c238b1, md238, en238, hklI, hkl, hns, h20I, hc] <;> refine hs0 _ ?_ <;> simp [head238b, mcells, marrs, Mate.arrs, zeroM, hw, List.range, List.range.loop]
        · have hklI : ¬ (k : Int) < xs.length := by omega
          have hkx : xs.length = k := by omega
          have hx : xs[k]? = none := by rw [← hkx]; simp
          rw [hx] at hhit
          simp only at hhit
          subst hhit
          by_cases h20 : 20 ≤ xs.length
          · have h20I : (20 : Int) ≤ xs.length := by omega
            have hs0 := hskip (by rw [hadd]; simp [h20])
            cases f <;> simp [head238c, mcells, marrs, Mate.arrs, c238b1, md238, en238, hklI, h20I] <;> refine hs0 _ ?_ <;> simp [head238b, mcells, marrs, Mate.arrs, zeroM, hw, List.range, List.range.loop]
          · have h20I : ¬ (20 : Int) ≤ xs.length := by omega
            have hput : addRun xs w = xs ++ [newRun w] := by rw [hadd, hpt, ← hkx]; simp [h20]
            have hk20 : (k : Int) < 20 := by omega
            have e1 : k * 104 ≤ 140737488355328 := by omega
            have e2 : k ≤ 140737488355328 := by omega
            have e3 : (k + 1) * 104 ≤ 140737488355328 := by omega
            have e4 : k + 1 ≤ 140737488355328 := by omega
            have rp : rowsPlain [[AV.str w.copy, .int .i64 w.version, .str w.hold, .int .i64 w.pull, .int .i64 w.start, .int .i64 w.dies, .int .i64 w.grace, .int .i64 1, .int .i64 w.pull, .int .i64 0, .int .i64 0]] = true := plain_run [newRun w]
            have t7 : (xs.map Run.c).take k = xs.map Run.c := List.take_of_length_le (by simp; omega)
            have t8 : (xs.map Run.c).drop k = [] := List.drop_of_length_le (by simp; omega)
            have hs0 := hY (i + 1, addRun xs w)
            cases f <;> simp [head238c, mcells, marrs, Mate.arrs, c238b1, md238, en238, hklI, h20I, hk20, hkx, takeRows, rowsN, rp, rowsPlain_take, rowsPlain_drop, slBounds, e1, e2, e3, e4, t7, t8] <;> refine hs0 _ ⟨by simp only; omega, by rw [hnx], hal, haa⟩ (by simp only; omega) ?_ <;> simp [head238b, mcells, marrs, Mate.arrs, zeroM, hw, List.range, List.range.loop, hput, newRun]
    cases f <;> simp [head238b, mcells, marrs, Mate.arrs, c238b2, hi, hiI, hgw] <;> refine mid _ ?_ <;> simp [head238c, mcells, marrs, Mate.arrs, zeroM, List.range, List.range.loop]
  · have hiI : ¬ (i : Int) < m.wants.length := by omega
    obtain rfl : i = m.wants.length := by omega
    rw [List.take_length] at g2
    have hml : mLives m = { m with runs := xs, asks := as, gives := gs } := by unfold mLives; rw [hs, g2]
    cases f
    · obtain ⟨e1, e2⟩ := hk rfl
      simp [head238b, mcells, marrs, Mate.arrs, c238b2, tl238, zeroM]
      exact ⟨false, by simp [hml, e1, e2]⟩
    · simp [head238b, mcells, marrs, Mate.arrs, c238b2, tl238, zeroM]
      exact ⟨true, by simp [hml]⟩

set_option maxHeartbeats 0 in
theorem law238 (m : Mate) (hm : m.small) (hwl : m.wants.length ≤ 1000) (hr : m.runs.length ≤ 20) (ha : Asc Run.k m.runs) (hsane : ∀ r ∈ m.runs, Sane r) (hal : m.asks.length ≤ 100) (hgl : m.gives.length ≤ 20) : Ends (F 238 [.agg (m.refs 0)] m.arrs) (Res238 m) := by
  refine F_ends fn238 rfl ?_
  simp [c238_cut, Mate.refs, Mate.arrs]
  refine loop_end (σ := Nat × Bool × LV) (fun z => head238a m z.2.1 z.2.2 z.1) (fun z => z.1 ≤ m.runs.length ∧ z.2.2 = (m.runs.take z.1).foldl (liveStep m.clock m.wants) ⟨[], m.asks, m.gives⟩ ∧ Kept m z.2.1 z.2.2.asks z.2.2.gives ∧ z.2.2.runs.length ≤ z.1 ∧ z.2.2.asks.length ≤ 100 ∧ z.2.2.gives.length ≤ 20 + z.1) (fun z => m.runs.length - z.1) (fun z Y hinv hY => ?_) (0, false, ⟨[], m.asks, m.gives⟩) ?_ ⟨by omega, rfl, fun _ => ⟨rfl, rfl⟩, by simp, hal, by simp only; omega⟩ (by unfold big; simp only; omega)
  · obtain ⟨i, f, rs, as', gv⟩ := z
    obtain ⟨g1, g2, g3, g4, g5, g6⟩ := hinv
    simp only at g1 g2 g3 g4 g5 g6 hY ⊢
    by_cases hi : i < m.runs.length
    · have hiI : (i : Int) < m.runs.length := by omega
      have hw : IntKind.i64.wrap ((i : Int) + 1) = (i : Int) + 1 := i64w (by omega) (by omega)
      obtain ⟨r, hgr⟩ : ∃ r, m.runs[i] = r := ⟨_, rfl⟩
      have hri : m.runs[i]? = some r := by rw [← hgr]; exact List.getElem?_eq_getElem hi
      have hsr := hsane r (List.mem_of_getElem? hri)
      have htk : m.runs.take (i + 1) = m.runs.take i ++ [r] := by rw [List.take_add_one, hri]; rfl
      have hnx : (m.runs.take (i + 1)).foldl (liveStep m.clock m.wants) ⟨[], m.asks, m.gives⟩ = liveStep m.clock m.wants ⟨rs, as', gv⟩ r := by rw [htk, List.foldl_append, ← g2]; rfl
      have w161 := law161 m.wants r.want.copy (by unfold big; omega)
      have hsl := hsr.left
      have hsf := hsr.falls
      have w15 := law15 r ((findW m.wants r.want.copy).getD .zero) (findW m.wants r.want.copy).isSome m.clock ⟨by omega, by omega⟩ ⟨by omega, by omega⟩
      have hlv : liveOf m.clock m.wants r = mateLive r ((findW m.wants r.want.copy).getD .zero) (findW m.wants r.want.copy).isSome m.clock := rfl
      unfold liveRes at w15
      rw [← hlv] at w15
      generalize (findW m.wants r.want.copy).getD .zero = w at w161 w15
      generalize (findW m.wants r.want.copy).isSome = b at w161 w15
      simp only [Want.c, Run.c] at w161 w15
      have hc1 : (rs.length + 1) * 104 ≤ 140737488355328 := by omega
      have hc2 : rs.length + 1 ≤ 140737488355328 := by omega
      cases hlo : liveOf m.clock m.wants r with
      | some n =>
        have hst : liveStep m.clock m.wants ⟨rs, as', gv⟩ r = ⟨rs ++ [n], as', gv⟩ := by unfold liveStep; rw [hlo]
        rw [hlo] at w15
        simp only [Option.getD_some, Option.isSome_some] at w15
        have rp : rowsPlain [[AV.str n.want.copy, .int .i64 n.want.version, .str n.want.hold, .int .i64 n.want.pull, .int .i64 n.want.start, .int .i64 n.want.dies, .int .i64 n.want.grace, .int .i64 n.state, .int .i64 n.left, .int .i64 n.falls, .int .i64 n.til]] = true := plain_run [n]
        cases f
        · obtain ⟨rfl, rfl⟩ := g3 rfl
          simp [head238a, mcells, marrs, Mate.arrs, c238b0, hi, hiI, hgr, w161, w15, takeRows, rp, hc1, hc2]
          refine hY (i + 1, _, ⟨rs ++ [n], _, _⟩) _ ⟨by simp only; omega, by rw [hnx, hst], g3, by simp; omega, g5, Nat.le_succ_of_le g6⟩ (by simp only; omega) ?_
          simp [head238a, mcells, marrs, Mate.arrs, zeroM, hw, List.range, List.range.loop]
        · skip
          simp [head238a, mcells, marrs, Mate.arrs, c238b0, hi, hiI, hgr, w161, w15, takeRows, rp, hc1, hc2]
          refine hY (i + 1, _, ⟨rs ++ [n], _, _⟩) _ ⟨by simp only; omega, by rw [hnx, hst], g3, by simp; omega, g5, Nat.le_succ_of_le g6⟩ (by simp only; omega) ?_
          simp [head238a, mcells, marrs, Mate.arrs, zeroM, hw, List.range, List.range.loop]
      | none =>
        have hst : liveStep m.clock m.wants ⟨rs, as', gv⟩ r = giveUp r.want.hold ⟨rs, as', gv⟩ := by unfold liveStep; rw [hlo]
        rw [hlo] at w15
        simp [Run.zero] at w15
        have w110 := law110 as' r.want.hold (by omega)
        have hdl : (dropHold as' r.want.hold).length ≤ as'.length := List.length_filter_le _ _
        have w136 := law136 as' r.want.hold (by omega)
        cases q : sEq r.want.hold ⟨#[]⟩
        · rcases askOf_at as' r.want.hold with ⟨e, hno⟩ | ⟨k, hkl, e, hso, hsh⟩
          · have hgu : giveUp r.want.hold ⟨rs, as', gv⟩ = ⟨rs, as', gv⟩ := by unfold giveUp; rw [q, hno]; rfl
            rw [e] at w110
            cases f
            · obtain ⟨rfl, rfl⟩ := g3 rfl
              simp [head238a, mcells, marrs, Mate.arrs, c238b0, hi, hiI, hgr, w161, w15, q, w110]
              refine hY (i + 1, _, ⟨rs, _, _⟩) _ ⟨by simp only; omega, by rw [hnx, hst, hgu], g3, by simp only; omega, g5, Nat.le_succ_of_le g6⟩ (by simp only; omega) ?_
              simp [head238a, mcells, marrs, Mate.arrs, zeroM, hw, List.range, List.range.loop]
            · skip
              simp [head238a, mcells, marrs, Mate.arrs, c238b0, hi, hiI, hgr, w161, w15, q, w110]
              refine hY (i + 1, _, ⟨rs, _, _⟩) _ ⟨by simp only; omega, by rw [hnx, hst, hgu], g3, by simp only; omega, g5, Nat.le_succ_of_le g6⟩ (by simp only; omega) ?_
              simp [head238a, mcells, marrs, Mate.arrs, zeroM, hw, List.range, List.range.loop]
          · rw [e] at w110
            have hgu : giveUp r.want.hold ⟨rs, as', gv⟩ = ⟨rs, dropHold as' r.want.hold, if gv.length < 40 then putBy Ask.k as'[k] gv else gv⟩ := by unfold giveUp; rw [q, hso]; rfl
            obtain ⟨ask, hask⟩ : ∃ ask, as'[k] = ask := ⟨_, rfl⟩
            rw [hask] at hgu
            have hlt : gv.length < 40 := by omega
            have hltI : (gv.length : Int) < 40 := by omega
            rw [if_pos hlt] at hgu
            have w241 := law241 gv ask (by omega)
            have hpl := putBy_len Ask.k ask gv
            simp only [Ask.c] at w241
            cases f
            · obtain ⟨rfl, rfl⟩ := g3 rfl
              simp [head238a, mcells, marrs, Mate.arrs, c238b0, hi, hiI, hgr, w161, w15, q, w110, hkl, hask, hlt, hltI, w241, w136]
              refine hY (i + 1, true, ⟨rs, dropHold _ r.want.hold, putBy Ask.k ask _⟩) _ ⟨by simp only; omega, by rw [hnx, hst, hgu], keptT, by simp only; omega, Nat.le_trans hdl g5, Nat.le_trans hpl (Nat.succ_le_succ g6)⟩ (by simp only; omega) ?_
              simp [head238a, mcells, marrs, Mate.arrs, zeroM, hw, List.range, List.range.loop]
            · skip
              simp [head238a, mcells, marrs, Mate.arrs, c238b0, hi, hiI, hgr, w161, w15, q, w110, hkl, hask, hlt, hltI, w241, w136]
              refine hY (i + 1, true, ⟨rs, dropHold _ r.want.hold, putBy Ask.k ask _⟩) _ ⟨by simp only; omega, by rw [hnx, hst, hgu], keptT, by simp only; omega, Nat.le_trans hdl g5, Nat.le_trans hpl (Nat.succ_le_succ g6)⟩ (by simp only; omega) ?_
              simp [head238a, mcells, marrs, Mate.arrs, zeroM, hw, List.range, List.range.loop]
        · have hgu : giveUp r.want.hold ⟨rs, as', gv⟩ = ⟨rs, as', gv⟩ := by unfold giveUp; rw [q]; rfl
          cases f
          · obtain ⟨rfl, rfl⟩ := g3 rfl
            simp [head238a, mcells, marrs, Mate.arrs, c238b0, hi, hiI, hgr, w161, w15, q, w110]
            refine hY (i + 1, _, ⟨rs, _, _⟩) _ ⟨by simp only; omega, by rw [hnx, hst, hgu], g3, by simp only; omega, g5, Nat.le_succ_of_le g6⟩ (by simp only; omega) ?_
            simp [head238a, mcells, marrs, Mate.arrs, zeroM, hw, List.range, List.range.loop]
          · skip
            simp [head238a, mcells, marrs, Mate.arrs, c238b0, hi, hiI, hgr, w161, w15, q, w110]
            refine hY (i + 1, _, ⟨rs, _, _⟩) _ ⟨by simp only; omega, by rw [hnx, hst, hgu], g3, by simp only; omega, g5, Nat.le_succ_of_le g6⟩ (by simp only; omega) ?_
            simp [head238a, mcells, marrs, Mate.arrs, zeroM, hw, List.range, List.range.loop]
    · have hiI : ¬ (i : Int) < m.runs.length := by omega
      obtain rfl : i = m.runs.length := by omega
      rw [List.take_length] at g2
      have hlv : livesOf m = ⟨rs, as', gv⟩ := g2.symm
      have hra := livesOf_asc ha
      rw [hlv] at hra
      have key := rest238 m hm hwl f as' gv rs g3 (by omega) hra hlv
      cases f <;> simp [head238a, mcells, marrs, Mate.arrs, c238b0] <;> refine key _ ?_ <;> simp [head238b, mcells, marrs, Mate.arrs, zeroM, List.range, List.range.loop]
  · simp [head238a, mcells, marrs, Mate.arrs, zeroM, List.range, List.range.loop]
end Go.Proofs.YtpiljklnekefoaaGreatDoor

namespace Go.Proofs.YtpiljklnekefoaaGreatDoor
open Go
set_option linter.unusedSimpArgs false
set_option maxRecDepth 100000

def asksHold (ws : List Want) (gives : List Ask) (r : Run) : Bool := (match findW ws r.want.copy with
  | some w => eqWant w r.want
  | none => false) && (!sEq r.want.hold ⟨#[]⟩ && (askOf r.want.hold gives).isNone)
def freshAsk (c : Int) (r : Run) (as : List Ask) : Option Ask := match askOf r.want.hold as with
  | some a => if sEq a.copy r.want.copy then (if c < IntKind.i64.wrap (a.at_ + 6) then none else some ⟨r.want.hold, r.want.copy, a.first, c⟩) else some ⟨r.want.hold, r.want.copy, c, c⟩
  | none => some ⟨r.want.hold, r.want.copy, c, c⟩
def asked (name : T) (c : Int) (r : Run) : Parcel := ⟨2, name, 0, [], r.want.hold, r.want.copy, c⟩
def askStep (m : Mate) (s : List Ask × List Parcel) (r : Run) : List Ask × List Parcel := if asksHold m.wants m.gives r then match freshAsk m.clock r s.1 with
    | some a => (putBy Ask.k a s.1, s.2 ++ [asked m.name m.clock r])
    | none => s
  else s
def asksOf (m : Mate) : List Ask × List Parcel := m.runs.foldl (askStep m) (m.asks, [])
def mAsks (m : Mate) : Mate := { m with asks := (asksOf m).1 }

def acells (f : Bool) (m : Mate) : List AV := [.str m.name, .bool m.up, .int .i64 m.clock, .bool m.known, .int .i64 m.seen, .ref 0, .ref 1, if f then .ref 7 else .ref 2, .ref 3]
def aarrs (f : Bool) (as : List Ask) : List AO := if f then [.arr 4 (as.map Ask.c)] else []
def head237 (m : Mate) (f : Bool) (as : List Ask) (out : List Parcel) (i : Nat) : St :=
  hd [(1, .ptr 4 0 0), (2, .ptr 5 0 0), (4, .ref 6), (5, .int .i64 i)] (m.arrs ++ [.box (acells f m), .box zeroM, .arr 7 (out.map (Parcel.c .own))] ++ aarrs f as) 4
def Res237 (m : Mate) (r : AV × List (Option AO)) : Prop := ∃ f : Bool, r = (.tup [.agg ((mAsks m).c .own), .sl .own 7 ((asksOf m).2.map (Parcel.c .own))], [none, none, if f then some (.arr 4 (m.asks.map Ask.c)) else none, none])

set_option maxHeartbeats 0 in
theorem law237 (m : Mate) (_ : m.small) (hwl : m.wants.length ≤ 1000) (hr : m.runs.length ≤ 20) (hal : m.asks.length ≤ 20) (hgl : m.gives.length ≤ 100) : Ends (F 237 [.agg (m.refs 0)] m.arrs) (Res237 m) := by
  refine F_ends fn237 rfl ?_
  simp [c237, Mate.refs, Mate.arrs]
  refine loop_end (σ := Nat × Bool × List Ask × List Parcel) (fun z => head237 m z.2.1 z.2.2.1 z.2.2.2 z.1) (fun z => z.1 ≤ m.runs.length ∧ z.2.2 = (m.runs.take z.1).foldl (askStep m) (m.asks, []) ∧ (z.2.1 = false → z.2.2.1 = m.asks) ∧ z.2.2.1.length ≤ 20 + z.1 ∧ z.2.2.2.length ≤ z.1) (fun z => m.runs.length - z.1) (fun z Y hinv hY => ?_) (0, false, m.asks, []) ?_ ⟨by omega, rfl, fun _ => rfl, by simp only; omega, by simp⟩ (by unfold big; simp only; omega)
  · obtain ⟨i, f, as', out⟩ := z
    obtain ⟨g1, g2, g3, g4, g5⟩ := hinv
    simp only at g1 g2 g3 g4 g5 hY ⊢
    by_cases hi : i < m.runs.length
    · have hiI : (i : Int) < m.runs.length := by omega
      have hw : IntKind.i64.wrap ((i : Int) + 1) = (i : Int) + 1 := i64w (by omega) (by omega)
      obtain ⟨r, hgr⟩ : ∃ r, m.runs[i] = r := ⟨_, rfl⟩
      have hri : m.runs[i]? = some r := by rw [← hgr]; exact List.getElem?_eq_getElem hi
      have htk : m.runs.take (i + 1) = m.runs.take i ++ [r] := by rw [List.take_add_one, hri]; rfl
      have hnx : (m.runs.take (i + 1)).foldl (askStep m) (m.asks, []) = askStep m (as', out) r := by rw [htk, List.foldl_append, ← g2]; rfl
      have w161 := law161 m.wants r.want.copy (by unfold big; omega)
      have hc1 : (out.length + 1) * 96 ≤ 140737488355328 := by omega
      have hc2 : out.length + 1 ≤ 140737488355328 := by omega
      have hah : asksHold m.wants m.gives r = ((match findW m.wants r.want.copy with
        | some w => eqWant w r.want
        | none => false) && (!sEq r.want.hold ⟨#[]⟩ && (askOf r.want.hold m.gives).isNone)) := rfl
      have hno : asksHold m.wants m.gives r = false → askStep m (as', out) r = (as', out) := fun h => by unfold askStep; rw [h]; rfl
      cases hfw : findW m.wants r.want.copy with
      | none =>
        rw [hfw] at w161 hah
        have hst := hno (by rw [hah]; rfl)
        simp [Want.zero] at w161
        cases f
        · obtain rfl := g3 rfl
          simp [head237, acells, aarrs, Mate.arrs, c237b0, hi, hiI, hgr, w161, w161]
          refine hY (i + 1, _, _, _) _ ⟨by simp only; omega, by rw [hnx, hst], g3, Nat.le_succ_of_le g4, Nat.le_succ_of_le g5⟩ (by simp only; omega) ?_
          simp [head237, acells, aarrs, Mate.arrs, zeroM, hw, List.range, List.range.loop]
        · skip
          simp [head237, acells, aarrs, Mate.arrs, c237b0, hi, hiI, hgr, w161, w161]
          refine hY (i + 1, _, _, _) _ ⟨by simp only; omega, by rw [hnx, hst], g3, Nat.le_succ_of_le g4, Nat.le_succ_of_le g5⟩ (by simp only; omega) ?_
          simp [head237, acells, aarrs, Mate.arrs, zeroM, hw, List.range, List.range.loop]
      | some w =>
        rw [hfw] at w161 hah
        simp at w161
        simp only at hah
        cases heq : eqWant w r.want
        · rw [heq] at hah
          have hst := hno (by rw [hah]; rfl)
          cases f
          · obtain rfl := g3 rfl
            simp [head237, acells, aarrs, Mate.arrs, c237b0, hi, hiI, hgr, w161, heq]
            refine hY (i + 1, _, _, _) _ ⟨by simp only; omega, by rw [hnx, hst], g3, Nat.le_succ_of_le g4, Nat.le_succ_of_le g5⟩ (by simp only; omega) ?_
            simp [head237, acells, aarrs, Mate.arrs, zeroM, hw, List.range, List.range.loop]
          · skip
            simp [head237, acells, aarrs, Mate.arrs, c237b0, hi, hiI, hgr, w161, heq]
            refine hY (i + 1, _, _, _) _ ⟨by simp only; omega, by rw [hnx, hst], g3, Nat.le_succ_of_le g4, Nat.le_succ_of_le g5⟩ (by simp only; omega) ?_
            simp [head237, acells, aarrs, Mate.arrs, zeroM, hw, List.range, List.range.loop]
        · rw [heq] at hah
          obtain rfl := (eqWant_iff _ _).1 heq
          have heqc : eqWant r.want r.want = true := heq
          cases q : sEq r.want.hold ⟨#[]⟩
          · have w110g := law110 m.gives r.want.hold (by omega)
            rcases askOf_at m.gives r.want.hold with ⟨e, hgo⟩ | ⟨k, hkl, e, hgo, _⟩
            · rw [e] at w110g
              have hyes : asksHold m.wants m.gives r = true := by rw [hah, q, hgo]; rfl
              have hyst : askStep m (as', out) r = match freshAsk m.clock r as' with
                | some a => (putBy Ask.k a as', out ++ [asked m.name m.clock r])
                | none => (as', out) := by unfold askStep; rw [hyes]; rfl
              have w110a := law110 as' r.want.hold (by omega)
              have w241 := fun first => law241 as' ⟨r.want.hold, r.want.copy, first, m.clock⟩ (by omega)
              have hpl := fun x => putBy_len Ask.k x as'
              simp only [Ask.c] at w241
              rcases askOf_at as' r.want.hold with ⟨e2, hao⟩ | ⟨k, hkl, e2, hao, _⟩
              · rw [e2] at w110a
                have hfr : freshAsk m.clock r as' = some ⟨r.want.hold, r.want.copy, m.clock, m.clock⟩ := by unfold freshAsk; rw [hao]
                have hst := hyst
                rw [hfr] at hst
                simp only at hst
                specialize w241 m.clock
                specialize hpl ⟨r.want.hold, r.want.copy, m.clock, m.clock⟩
                have hlt : ¬ (40 : Int) ≤ as'.length := by omega
                cases f
                · obtain rfl := g3 rfl
                  simp [head237, acells, aarrs, Mate.arrs, c237b0, hi, hiI, hgr, w161, heqc, q, w110g, w110a, hlt, w241, takeRows, hc1, hc2]
                  refine hY (i + 1, true, putBy Ask.k _ _, out ++ [asked m.name m.clock r]) _ ⟨by simp only; omega, by rw [hnx, hst], (fun h => nomatch h), Nat.le_trans hpl (Nat.succ_le_succ g4), by simp; omega⟩ (by simp only; omega) ?_
                  simp [head237, acells, aarrs, Mate.arrs, zeroM, hw, List.range, List.range.loop, asked]
                · skip
                  simp [head237, acells, aarrs, Mate.arrs, c237b0, hi, hiI, hgr, w161, heqc, q, w110g, w110a, hlt, w241, takeRows, hc1, hc2]
                  refine hY (i + 1, true, putBy Ask.k _ _, out ++ [asked m.name m.clock r]) _ ⟨by simp only; omega, by rw [hnx, hst], (fun h => nomatch h), Nat.le_trans hpl (Nat.succ_le_succ g4), by simp; omega⟩ (by simp only; omega) ?_
                  simp [head237, acells, aarrs, Mate.arrs, zeroM, hw, List.range, List.range.loop, asked]
              · rw [e2] at w110a
                obtain ⟨a, hak⟩ : ∃ a, as'[k] = a := ⟨_, rfl⟩
                rw [hak] at hao
                have h0k : ¬ (k : Int) < 0 := by omega
                cases q2 : sEq a.copy r.want.copy
                · have hfr : freshAsk m.clock r as' = some ⟨r.want.hold, r.want.copy, m.clock, m.clock⟩ := by unfold freshAsk; rw [hao]; simp only [q2]; rfl
                  have hst := hyst
                  rw [hfr] at hst
                  simp only at hst
                  specialize w241 m.clock
                  specialize hpl ⟨r.want.hold, r.want.copy, m.clock, m.clock⟩
                  cases f
                  · obtain rfl := g3 rfl
                    simp [head237, acells, aarrs, Mate.arrs, c237b0, hi, hiI, hgr, w161, heqc, q, w110g, w110a, hkl, hak, q2, h0k, w241, takeRows, hc1, hc2]
                    refine hY (i + 1, true, putBy Ask.k _ _, out ++ [asked m.name m.clock r]) _ ⟨by simp only; omega, by rw [hnx, hst], (fun h => nomatch h), Nat.le_trans hpl (Nat.succ_le_succ g4), by simp; omega⟩ (by simp only; omega) ?_
                    simp [head237, acells, aarrs, Mate.arrs, zeroM, hw, List.range, List.range.loop, asked]
                  · skip
                    simp [head237, acells, aarrs, Mate.arrs, c237b0, hi, hiI, hgr, w161, heqc, q, w110g, w110a, hkl, hak, q2, h0k, w241, takeRows, hc1, hc2]
                    refine hY (i + 1, true, putBy Ask.k _ _, out ++ [asked m.name m.clock r]) _ ⟨by simp only; omega, by rw [hnx, hst], (fun h => nomatch h), Nat.le_trans hpl (Nat.succ_le_succ g4), by simp; omega⟩ (by simp only; omega) ?_
                    simp [head237, acells, aarrs, Mate.arrs, zeroM, hw, List.range, List.range.loop, asked]
                · by_cases q3 : m.clock < IntKind.i64.wrap (a.at_ + 6)
                  · have hfr : freshAsk m.clock r as' = none := by unfold freshAsk; rw [hao]; simp only [q2, q3, if_true]
                    have hst := hyst
                    rw [hfr] at hst
                    simp only at hst
                    cases f
                    · obtain rfl := g3 rfl
                      simp [head237, acells, aarrs, Mate.arrs, c237b0, hi, hiI, hgr, w161, heqc, q, w110g, w110a, hkl, hak, q2, q3, h0k]
                      refine hY (i + 1, _, _, _) _ ⟨by simp only; omega, by rw [hnx, hst], g3, Nat.le_succ_of_le g4, Nat.le_succ_of_le g5⟩ (by simp only; omega) ?_
                      simp [head237, acells, aarrs, Mate.arrs, zeroM, hw, List.range, List.range.loop]
                    · skip
                      simp [head237, acells, aarrs, Mate.arrs, c237b0, hi, hiI, hgr, w161, heqc, q, w110g, w110a, hkl, hak, q2, q3, h0k]
                      refine hY (i + 1, _, _, _) _ ⟨by simp only; omega, by rw [hnx, hst], g3, Nat.le_succ_of_le g4, Nat.le_succ_of_le g5⟩ (by simp only; omega) ?_
                      simp [head237, acells, aarrs, Mate.arrs, zeroM, hw, List.range, List.range.loop]
                  · have hfr : freshAsk m.clock r as' = some ⟨r.want.hold, r.want.copy, a.first, m.clock⟩ := by unfold freshAsk; rw [hao]; simp only [q2, q3, if_true, if_false]
                    have hst := hyst
                    rw [hfr] at hst
                    simp only at hst
                    specialize w241 a.first
                    specialize hpl ⟨r.want.hold, r.want.copy, a.first, m.clock⟩
                    cases f
                    · obtain rfl := g3 rfl
                      simp [head237, acells, aarrs, Mate.arrs, c237b0, hi, hiI, hgr, w161, heqc, q, w110g, w110a, hkl, hak, q2, q3, h0k, w241, takeRows, hc1, hc2]
                      refine hY (i + 1, true, putBy Ask.k _ _, out ++ [asked m.name m.clock r]) _ ⟨by simp only; omega, by rw [hnx, hst], (fun h => nomatch h), Nat.le_trans hpl (Nat.succ_le_succ g4), by simp; omega⟩ (by simp only; omega) ?_
                      simp [head237, acells, aarrs, Mate.arrs, zeroM, hw, List.range, List.range.loop, asked]
                    · skip
                      simp [head237, acells, aarrs, Mate.arrs, c237b0, hi, hiI, hgr, w161, heqc, q, w110g, w110a, hkl, hak, q2, q3, h0k, w241, takeRows, hc1, hc2]
                      refine hY (i + 1, true, putBy Ask.k _ _, out ++ [asked m.name m.clock r]) _ ⟨by simp only; omega, by rw [hnx, hst], (fun h => nomatch h), Nat.le_trans hpl (Nat.succ_le_succ g4), by simp; omega⟩ (by simp only; omega) ?_
                      simp [head237, acells, aarrs, Mate.arrs, zeroM, hw, List.range, List.range.loop, asked]
            · rw [e] at w110g
              have hst := hno (by rw [hah, hgo]; simp)
              cases f
              · obtain rfl := g3 rfl
                simp [head237, acells, aarrs, Mate.arrs, c237b0, hi, hiI, hgr, w161, heqc, q, w110g]
                refine hY (i + 1, _, _, _) _ ⟨by simp only; omega, by rw [hnx, hst], g3, Nat.le_succ_of_le g4, Nat.le_succ_of_le g5⟩ (by simp only; omega) ?_
                simp [head237, acells, aarrs, Mate.arrs, zeroM, hw, List.range, List.range.loop]
              · skip
                simp [head237, acells, aarrs, Mate.arrs, c237b0, hi, hiI, hgr, w161, heqc, q, w110g]
                refine hY (i + 1, _, _, _) _ ⟨by simp only; omega, by rw [hnx, hst], g3, Nat.le_succ_of_le g4, Nat.le_succ_of_le g5⟩ (by simp only; omega) ?_
                simp [head237, acells, aarrs, Mate.arrs, zeroM, hw, List.range, List.range.loop]
          · have hst := hno (by rw [hah, q]; simp)
            cases f
            · obtain rfl := g3 rfl
              simp [head237, acells, aarrs, Mate.arrs, c237b0, hi, hiI, hgr, w161, heqc, q]
              refine hY (i + 1, _, _, _) _ ⟨by simp only; omega, by rw [hnx, hst], g3, Nat.le_succ_of_le g4, Nat.le_succ_of_le g5⟩ (by simp only; omega) ?_
              simp [head237, acells, aarrs, Mate.arrs, zeroM, hw, List.range, List.range.loop]
            · skip
              simp [head237, acells, aarrs, Mate.arrs, c237b0, hi, hiI, hgr, w161, heqc, q]
              refine hY (i + 1, _, _, _) _ ⟨by simp only; omega, by rw [hnx, hst], g3, Nat.le_succ_of_le g4, Nat.le_succ_of_le g5⟩ (by simp only; omega) ?_
              simp [head237, acells, aarrs, Mate.arrs, zeroM, hw, List.range, List.range.loop]
    · have hiI : ¬ (i : Int) < m.runs.length := by omega
      obtain rfl : i = m.runs.length := by omega
      rw [List.take_length] at g2
      have hlv : asksOf m = (as', out) := g2.symm
      cases f
      · have e := g3 rfl
        simp [head237, acells, aarrs, Mate.arrs, c237b0, zeroM]
        exact ⟨false, by simp [mAsks, hlv, e]⟩
      · simp [head237, acells, aarrs, Mate.arrs, c237b0, zeroM]
        exact ⟨true, by simp [mAsks, hlv]⟩
  · simp [head237, acells, aarrs, Mate.arrs, zeroM, List.range, List.range.loop]
end Go.Proofs.YtpiljklnekefoaaGreatDoor

namespace Go.Proofs.YtpiljklnekefoaaGreatDoor
open Go
set_option linter.unusedSimpArgs false
set_option maxRecDepth 100000

def backP (n : T) (a : Ask) : Parcel := ⟨4, n, 0, [], a.hold, a.copy, a.at_⟩
def hereP (m : Mate) : Parcel := ⟨6, m.name, m.seen, [], ⟨#[]⟩, ⟨#[]⟩, 0⟩
def tickOn (m : Mate) (rate : Int) : Mate := { m with clock := m.clock + rate, runs := m.runs.map (wd (m.clock + rate)) }
def tickRuns (m : Mate) : Mate := if m.known then mLives m else m
def tickOut (m : Mate) : List Parcel := (asksOf m).2 ++ m.gives.map (backP m.name) ++ [hereP m]
def mateTick (m : Mate) (rate : Int) : Mate × List Parcel :=
  if mateValid m then
    if inR rate 1 4 then
      if 1000000 < m.clock + rate then ({ mateFall m true with clock := 1000000 }, [])
      else if m.up then (mAsks (tickRuns (tickOn m rate)), tickOut (tickRuns (tickOn m rate))) else (tickOn m rate, [])
    else (m, [])
  else (.zero, [])

structure ValidIs (m : Mate) : Prop where
  clock : 0 ≤ m.clock ∧ m.clock ≤ 1000000
  wants : m.wants.length ≤ 10
  runs : m.runs.length ≤ 20
  runsAsc : Asc Run.k m.runs
  sane : ∀ r ∈ m.runs, Sane r
  asks : Asc Ask.k m.asks
  gives : Asc Ask.k m.gives
  apart : ∀ a ∈ m.asks, ∀ b ∈ m.gives, a.hold ≠ b.hold

theorem validIs {m : Mate} (h : mateValid m = true) : ValidIs m := by
  obtain ⟨h1, h2, _⟩ := (mateValid_iff m).1 h
  obtain ⟨_, p2, _, p4, _, p6, p7, p8⟩ := (mateParts_iff m).1 h1
  obtain ⟨r1, r2, r3⟩ := (runsOk_iff _ _).1 p6
  have w1 := (wantsOk_iff _).1 p4
  have a1 := (asksOk_iff _ _).1 p7
  have a2 := (asksOk_iff _ _).1 p8
  simp only [inR, Bool.and_eq_true, decide_eq_true_eq] at p2
  refine ⟨p2, w1.1, r1, r3, fun r hr => ?_, a1.2.2, a2.2.2, fun a ha b hb e => ?_⟩
  · have := r2 r hr
    simp only [runOk, inR, Bool.and_eq_true, decide_eq_true_eq] at this
    exact ⟨this.2.2.1, this.2.2.2.2.1⟩
  · unfold apartGo at h2
    have := List.all_eq_true.1 h2 a ha
    simp only [decide_eq_true_eq] at this
    rcases askAt_spec m.gives a.hold with ⟨_, hno⟩ | ⟨k, hk, e1, _⟩
    · have := hno b hb
      rw [(sEq_iff _ _).2 e.symm] at this
      cases this
    · omega

theorem wd_sane {c : Int} {r : Run} (h : Sane r) : Sane (wd c r) := by
  unfold wd
  split
  · exact ⟨⟨by simp, by simp⟩, h.falls⟩
  · exact h
theorem wd_want (c : Int) (r : Run) : (wd c r).want = r.want := by unfold wd; split <;> rfl
theorem wd_k (c : Int) (r : Run) : Run.k (wd c r) = Run.k r := by unfold Run.k; rw [wd_want]
theorem wd_asc {c : Int} {l : List Run} (h : Asc Run.k l) : Asc Run.k (l.map (wd c)) := by
  rw [asc_map] at h ⊢
  rw [List.map_map]
  have e : Run.k ∘ wd c = Run.k := funext fun r => wd_k c r
  rw [e]; exact h

theorem giveUp_len (h : T) (s : LV) : (giveUp h s).asks.length ≤ s.asks.length ∧ (giveUp h s).gives.length ≤ s.gives.length + 1 := by
  unfold giveUp
  split
  · exact ⟨Nat.le_refl _, Nat.le_succ _⟩
  · split
    · exact ⟨Nat.le_refl _, Nat.le_succ _⟩
    · refine ⟨List.length_filter_le _ _, ?_⟩
      simp only
      split
      · exact putBy_len Ask.k _ _
      · exact Nat.le_succ _

theorem livesGo_len (c : Int) (ws : List Want) : ∀ (rs : List Run) (s : LV), (rs.foldl (liveStep c ws) s).asks.length ≤ s.asks.length ∧ (rs.foldl (liveStep c ws) s).gives.length ≤ s.gives.length + rs.length
  | [], s => ⟨Nat.le_refl _, Nat.le_refl _⟩
  | r :: rs, s => by
    have h1 : (liveStep c ws s r).asks.length ≤ s.asks.length ∧ (liveStep c ws s r).gives.length ≤ s.gives.length + 1 := by
      unfold liveStep
      split
      · exact ⟨Nat.le_refl _, Nat.le_succ _⟩
      · exact giveUp_len _ _
    obtain ⟨h2, h3⟩ := livesGo_len c ws rs (liveStep c ws s r)
    simp only [List.foldl_cons, List.length_cons]
    omega

theorem addRuns_is : ∀ (ws : List Want) (rs : List Run), rs.length ≤ 20 → Asc Run.k rs → (ws.foldl addRun rs).length ≤ 20 ∧ Asc Run.k (ws.foldl addRun rs)
  | [], _, h, k => ⟨h, k⟩
  | w :: ws, rs, h, k => addRuns_is ws (addRun rs w) (addRun_len h) (addRun_asc k)

structure Fit (m : Mate) (n : Nat) : Prop where
  wants : m.wants.length ≤ 10
  runs : m.runs.length ≤ 20
  asc : Asc Run.k m.runs
  asks : m.asks.length ≤ 20
  gives : m.gives.length ≤ 20 + n

theorem Fit.small {m : Mate} {n : Nat} (h : Fit m n) (hn : n ≤ 1000) : m.small := ⟨by have := h.wants; omega, by have := h.runs; omega, by have := h.asks; omega, by have := h.gives; omega⟩

theorem mLives_fit {m : Mate} (h : Fit m 0) : Fit (mLives m) 20 := by
  have h1 := livesOf_len m.clock m.wants m.runs ⟨[], m.asks, m.gives⟩
  obtain ⟨h2, h3⟩ := livesGo_len m.clock m.wants m.runs ⟨[], m.asks, m.gives⟩
  have h4 := livesOf_asc h.asc
  have r := h.runs
  obtain ⟨a1, a2⟩ := addRuns_is m.wants (livesOf m).runs (by unfold livesOf; simp only [List.length_nil] at h1; omega) h4
  exact ⟨h.wants, a1, a2, Nat.le_trans h2 h.asks, by have := h.gives; have e : (mLives m).gives = (m.runs.foldl (liveStep m.clock m.wants) ⟨[], m.asks, m.gives⟩).gives := rfl; rw [e]; simp only at h3; omega⟩

theorem asksGo_len (m : Mate) : ∀ (rs : List Run) (s : List Ask × List Parcel), (rs.foldl (askStep m) s).1.length ≤ s.1.length + rs.length ∧ (rs.foldl (askStep m) s).2.length ≤ s.2.length + rs.length ∧ ((∀ p ∈ s.2, p.wants = []) → ∀ p ∈ (rs.foldl (askStep m) s).2, p.wants = [])
  | [], s => ⟨Nat.le_refl _, Nat.le_refl _, fun h => h⟩
  | r :: rs, s => by
    have h1 : (askStep m s r).1.length ≤ s.1.length + 1 ∧ (askStep m s r).2.length ≤ s.2.length + 1 ∧ ((∀ p ∈ s.2, p.wants = []) → ∀ p ∈ (askStep m s r).2, p.wants = []) := by
      unfold askStep
      split
      · split
        · refine ⟨putBy_len Ask.k _ _, by simp, fun h p hp => ?_⟩
          rcases List.mem_append.1 hp with hp | hp
          · exact h p hp
          · rw [List.mem_singleton.1 hp]; rfl
        · exact ⟨Nat.le_succ _, Nat.le_succ _, fun h => h⟩
      · exact ⟨Nat.le_succ _, Nat.le_succ _, fun h => h⟩
    obtain ⟨h2, h3, h4⟩ := asksGo_len m rs (askStep m s r)
    simp only [List.foldl_cons, List.length_cons]
    exact ⟨by omega, by omega, fun h => h4 (h1.2.2 h)⟩

def head234 (m : Mate) (out : List Parcel) (i : Nat) : St :=
  hd [(4, .ptr 0 0 0), (6, .ref 1), (7, .ptr 2 0 0), (8, .int .i64 i)] [.box zeroM, .arr 7 (out.map (Parcel.c .own)), .box [.str m.name, .bool m.up, .int .i64 m.clock, .bool m.known, .int .i64 m.seen, .ref 3, .ref 4, .ref 5, .ref 6], .arr 7 (m.wants.map Want.c), .arr 11 (m.runs.map Run.c), .arr 4 (m.asks.map Ask.c), .arr 4 (m.gives.map Ask.c)] 0
def tl234 : CCode := (.seq (.region [
    ⟨some 82, .mov (.tmp 6), none⟩,
    ⟨some 83, .faddr (.tmp 7) 0, none⟩,
    ⟨some 84, .load (.tmp 83) 1 false .plain, none⟩,
    ⟨some 85, .faddr (.tmp 7) 4, none⟩,
    ⟨some 86, .load (.tmp 85) 1 false .plain, none⟩,
    ⟨some 87, .build [.int .i64 0, .str ⟨#[]⟩, .int .i64 0, .sl .own 7 [], .str ⟨#[]⟩, .str ⟨#[]⟩, .int .i64 0] [(0, 1, .const (.int .i64 6)), (1, 1, .tmp 84), (2, 1, .tmp 86)], none⟩,
    ⟨some 88, .bslice 7 [.int .i64 0, .str ⟨#[]⟩, .int .i64 0, .sl .own 7 [], .str ⟨#[]⟩, .str ⟨#[]⟩, .int .i64 0] 1 [(0, .tmp 87)], none⟩,
    ⟨some 89, .append 7 96 false (.tmp 82) (.tmp 88), none⟩,
    ⟨some 6, .mov (.tmp 89), none⟩] [4, 6, 7])
  (.seq (.region [
    ⟨some 90, .load (.tmp 7) 9 true .plain, none⟩,
    ⟨some 91, .call 120 [false] [.tmp 90], none⟩,
    ⟨some 92, .mov (.tmp 6), none⟩,
    ⟨none, .store (.tmp 4) (.tmp 91) 9, none⟩,
    ⟨some 5, .mov (.tmp 92), none⟩] [4, 5])
  .ret))
theorem c234_cut : c234 = ⟨93, [.cell 4 9 true, .tmp 5],
  (.seq (.region [
    ⟨some 2, .box (.tmp 0), none⟩,
    ⟨some 4, .alloc [.str ⟨#[]⟩, .bool false, .int .i64 0, .bool false, .int .i64 0, .sl .own 7 [], .sl .own 11 [], .sl .own 4 [], .sl .own 4 []], none⟩,
    ⟨some 5, .mov (.const (.sl .own 7 [])), none⟩] [1, 2, 4])
  (.seq (.region [
    ⟨some 10, .bslice 7 [.int .i64 0, .str ⟨#[]⟩, .int .i64 0, .sl .own 7 [], .str ⟨#[]⟩, .str ⟨#[]⟩, .int .i64 0] 0 [], none⟩,
    ⟨some 6, .mov (.tmp 10), none⟩] [1, 2, 4, 6])
  (.seq (.seq (.region [
    ⟨some 11, .load (.tmp 2) 9 true .plain, none⟩,
    ⟨some 12, .call 29 [false] [.tmp 11], none⟩,
    ⟨some 13, .un .not (.tmp 12), none⟩] [1, 2, 4, 6, 13])
  (.cond (.tmp 13)
    (.seq (.region [
      ⟨some 14, .build [.str ⟨#[]⟩, .bool false, .int .i64 0, .bool false, .int .i64 0, .sl .own 7 [], .sl .own 11 [], .sl .own 4 [], .sl .own 4 []] [], none⟩,
      ⟨some 15, .mov (.tmp 6), none⟩,
      ⟨none, .store (.tmp 4) (.tmp 14) 9, none⟩,
      ⟨some 5, .mov (.tmp 15), none⟩] [4, 5])
    .ret)
    .skip))
  (.seq (.region [
    ⟨some 16, .load (.tmp 2) 9 true .plain, none⟩,
    ⟨some 17, .call 120 [false] [.tmp 16], none⟩,
    ⟨some 7, .alloc [.str ⟨#[]⟩, .bool false, .int .i64 0, .bool false, .int .i64 0, .sl .own 7 [], .sl .own 11 [], .sl .own 4 [], .sl .own 4 []], none⟩,
    ⟨none, .store (.tmp 7) (.tmp 17) 9, none⟩] [1, 4, 6, 7])
  (.seq (.seq (.region [
    ⟨some 18, .mov (.tmp 1), none⟩,
    ⟨some 19, .call 102 [false, false, false] [.tmp 18, .const (.int .i64 1), .const (.int .i64 4)], none⟩,
    ⟨some 20, .un .not (.tmp 19), none⟩] [1, 4, 6, 7, 20])
  (.cond (.tmp 20)
    (.seq (.region [
      ⟨some 21, .load (.tmp 7) 9 true .plain, none⟩,
      ⟨some 22, .mov (.tmp 6), none⟩,
      ⟨none, .store (.tmp 4) (.tmp 21) 9, none⟩,
      ⟨some 5, .mov (.tmp 22), none⟩] [4, 5])
    .ret)
    .skip))
  (.seq (.seq (.region [
    ⟨some 23, .faddr (.tmp 7) 2, none⟩,
    ⟨some 24, .load (.tmp 23) 1 false .plain, none⟩,
    ⟨some 25, .mov (.tmp 1), none⟩,
    ⟨some 26, .bin .add (.tmp 24) (.tmp 25), none⟩,
    ⟨some 27, .bin .gtr (.tmp 26) (.const (.int .i64 1000000)), none⟩] [1, 4, 6, 7, 27])
  (.cond (.tmp 27)
    (.seq (.region [
      ⟨some 28, .load (.tmp 7) 9 true .plain, none⟩,
      ⟨some 29, .call 32 [false, false] [.tmp 28, .const (.bool true)], none⟩,
      ⟨none, .store (.tmp 7) (.tmp 29) 9, none⟩] [4, 6, 7])
    (.seq (.region [
      ⟨some 30, .faddr (.tmp 7) 2, none⟩,
      ⟨none, .store (.tmp 30) (.const (.int .i64 1000000)) 1, none⟩] [4, 6, 7])
    (.seq (.region [
      ⟨some 31, .load (.tmp 7) 9 true .plain, none⟩,
      ⟨some 32, .mov (.tmp 6), none⟩,
      ⟨none, .store (.tmp 4) (.tmp 31) 9, none⟩,
      ⟨some 5, .mov (.tmp 32), none⟩] [4, 5])
    .ret)))
    .skip))
  (.seq (.region [
    ⟨some 33, .faddr (.tmp 7) 2, none⟩,
    ⟨some 34, .load (.tmp 33) 1 false .plain, none⟩,
    ⟨some 35, .mov (.tmp 1), none⟩,
    ⟨some 36, .bin .add (.tmp 34) (.tmp 35), none⟩,
    ⟨some 37, .faddr (.tmp 7) 2, none⟩,
    ⟨none, .store (.tmp 37) (.tmp 36) 1, none⟩] [4, 6, 7])
  (.seq (.region [
    ⟨some 38, .faddr (.tmp 7) 6, none⟩,
    ⟨some 39, .load (.tmp 38) 1 false .plain, none⟩,
    ⟨some 40, .faddr (.tmp 7) 2, none⟩,
    ⟨some 41, .load (.tmp 40) 1 false .plain, none⟩,
    ⟨some 42, .call 20 [false, false] [.tmp 39, .tmp 41], none⟩,
    ⟨some 43, .faddr (.tmp 7) 6, none⟩,
    ⟨none, .store (.tmp 43) (.tmp 42) 1, none⟩] [4, 6, 7])
  (.seq (.seq (.region [
    ⟨some 44, .faddr (.tmp 7) 1, none⟩,
    ⟨some 45, .load (.tmp 44) 1 false .plain, none⟩,
    ⟨some 46, .un .not (.tmp 45), none⟩] [4, 6, 7, 46])
  (.cond (.tmp 46)
    (.seq (.region [
      ⟨some 47, .load (.tmp 7) 9 true .plain, none⟩,
      ⟨some 48, .mov (.tmp 6), none⟩,
      ⟨none, .store (.tmp 4) (.tmp 47) 9, none⟩,
      ⟨some 5, .mov (.tmp 48), none⟩] [4, 5])
    .ret)
    .skip))
  (.seq (.seq (.region [
    ⟨some 49, .faddr (.tmp 7) 3, none⟩,
    ⟨some 50, .load (.tmp 49) 1 false .plain, none⟩] [4, 7, 50])
  (.cond (.tmp 50)
    (.region [
      ⟨some 51, .load (.tmp 7) 9 true .plain, none⟩,
      ⟨some 52, .call 238 [true] [.tmp 51], none⟩,
      ⟨none, .store (.tmp 7) (.tmp 52) 9, none⟩] [4, 7])
    .skip))
  (.seq (.region [
    ⟨some 54, .load (.tmp 7) 9 true .plain, none⟩,
    ⟨some 55, .call 237 [true] [.tmp 54], none⟩,
    ⟨some 53, .mov (.tmp 55), none⟩,
    ⟨some 56, .ext (.tmp 53) 0, none⟩,
    ⟨some 57, .ext (.tmp 53) 1, none⟩,
    ⟨none, .store (.tmp 7) (.tmp 56) 9, none⟩,
    ⟨some 6, .mov (.tmp 57), none⟩] [4, 6, 7])
  (.seq (.seq (.region [
    ⟨some 8, .mov (.const (.int .i64 0)), none⟩] [4, 6, 7, 8])
  (.block 0
    (.loop [4, 6, 7, 8] c234b0)))
  tl234))))))))))))⟩ := rfl

theorem tail234 (m : Mate) (hm : m.small) (out : List Parcel) (ho : out.length ≤ 1000) (hg : m.gives.length ≤ 1000) (s : St) (hs : s.norm [4, 6, 7, 8] = head234 m out 0) :
    fin [.cell 4 9 true, .tmp 5] 0 (X F [.code (.loop [4, 6, 7, 8] c234b0), .blk 0, .code tl234] (.normal, s)) = some (.tup [.agg (m.c .own), .sl .own 7 ((out ++ m.gives.map (backP m.name) ++ [hereP m]).map (Parcel.c .own))], []) := by
  obtain ⟨R, hR⟩ : ∃ R, R = (out ++ m.gives.map (backP m.name) ++ [hereP m]).map (Parcel.c .own) := ⟨_, rfl⟩
  rw [← hR]
  refine (loop_list m.gives (fun i (acc : List Parcel) => head234 m acc i) (fun i acc => acc = out ++ (m.gives.take i).map (backP m.name)) (fun _ _ _ => _) (fun acc Y hacc => ?_) (fun i a r acc Y ha hi hr hacc hY => ?_) out hs (by simp) ?_).trans rfl
  · rw [List.take_length] at hacc
    rw [← hacc] at hR
    have w120 := law120 m hm
    simp only [Mate.c] at w120
    have hal : acc.length ≤ 2000 := by rw [hacc]; simp; omega
    have c1 : (acc.length + 1) * 96 ≤ 140737488355328 := by omega
    have c2 : acc.length + 1 ≤ 140737488355328 := by omega
    simp [head234, c234b0, tl234, w120, zeroM, takeRows, c1, c2, hR, hereP]
  · have hw : IntKind.i64.wrap ((i : Int) + 1) = (i : Int) + 1 := i64w (by omega) (by omega)
    obtain ⟨_, hga⟩ := List.getElem?_eq_some_iff.1 ha
    have hiI : (i : Int) < m.gives.length := by omega
    have hal : acc.length ≤ 2000 := by rw [hacc]; simp; omega
    have c1 : (acc.length + 1) * 96 ≤ 140737488355328 := by omega
    have c2 : acc.length + 1 ≤ 140737488355328 := by omega
    simp [head234, c234b0, hi, hiI, hga, zeroM, takeRows, c1, c2]
    refine hY (acc ++ [backP m.name a]) _ ?_ ?_
    · rw [hacc, List.take_add_one, ha]
      simp
    · simp [head234, zeroM, hw, backP]
  · unfold big; omega

theorem law234 (m : Mate) (rate : Int) (hm : m.small) (ha : m.asks.length ≤ 20) (hg : m.gives.length ≤ 20) (_ : I64 rate) : F 234 [.agg (m.c .bor), .int .i64 rate] [] = some (.tup [.agg ((mateTick m rate).1.c .own), .sl .own 7 ((mateTick m rate).2.map (Parcel.c .own))], []) := by
  refine F_run fn234 rfl ?_
  have w1 := law29 m hm
  have w2 := law120 m hm
  simp only [Mate.c] at w1 w2
  unfold mateTick
  cases q1 : mateValid m
  · simp [c234_cut, w1, q1, Mate.zero]
  rw [q1] at w1
  have hv := validIs q1
  obtain ⟨hc0, hc1⟩ := hv.clock
  cases q2 : inR rate 1 4
  · simp [c234_cut, w1, w2, q2]
  have q2' := q2
  simp only [inR, Bool.and_eq_true, decide_eq_true_eq] at q2'
  have hw : IntKind.i64.wrap (m.clock + rate) = m.clock + rate := i64w (by omega) (by omega)
  by_cases q3 : 1000000 < m.clock + rate
  · have w3 := law32 m true hm
    simp only [Mate.c] at w3
    simp [c234_cut, w1, w2, w3, q2, hw, q3]
  have w4 := law20 m.runs (m.clock + rate) hm.runs
  have hfit : Fit (tickOn m rate) 0 := ⟨hv.wants, by simp [tickOn]; exact hv.runs, wd_asc hv.runsAsc, ha, by simp [tickOn]; exact hg⟩
  have hsane : ∀ r ∈ (tickOn m rate).runs, Sane r := fun r hr => by
    obtain ⟨r', h1, rfl⟩ := List.mem_map.1 hr
    exact wd_sane (hv.sane r' h1)
  cases q4 : m.up
  · rw [q4] at w1 w2
    simp [c234_cut, w1, w2, w4, q2, hw, q3, q4, tickOn]
  rw [q4] at w1 w2
  have fin234 : ∀ (x : Mate), Fit x 20 → ∀ st, st.norm [4, 6, 7, 8] = head234 (mAsks x) (asksOf x).2 0 → fin [.cell 4 9 true, .tmp 5] 0 (X F [.code (.loop [4, 6, 7, 8] c234b0), .blk 0, .code tl234] (.normal, st)) = some (.tup [.agg ((mAsks x).c .own), .sl .own 7 ((tickOut x).map (Parcel.c .own))], []) := fun x hx st hst => by
    obtain ⟨g1, g2, _⟩ := asksGo_len x x.runs (x.asks, [])
    have h1 := hx.runs
    have h2 := hx.asks
    have h3 := hx.gives
    have h4 := hx.wants
    have hs : (mAsks x).small := ⟨by simp [mAsks]; omega, by simp [mAsks]; omega, by simp only [mAsks, asksOf]; simp only at g1; omega, by simp [mAsks]; omega⟩
    exact tail234 (mAsks x) hs (asksOf x).2 (by simp only [asksOf]; simp only [List.length_nil] at g2; omega) (by simp [mAsks]; omega) st hst
  obtain ⟨y, hy⟩ : ∃ y, y = tickOn m rate := ⟨_, rfl⟩
  have y1 : y.name = m.name := by rw [hy]; rfl
  have y2 : y.up = true := by rw [hy]; exact q4
  have y3 : y.clock = m.clock + rate := by rw [hy]; rfl
  have y4 : y.known = m.known := by rw [hy]; rfl
  have y5 : y.seen = m.seen := by rw [hy]; rfl
  have y6 : y.wants = m.wants := by rw [hy]; rfl
  have y7 : m.runs.map (wd (m.clock + rate)) = y.runs := by rw [hy]; rfl
  have y8 : y.asks = m.asks := by rw [hy]; rfl
  have y9 : y.gives = m.gives := by rw [hy]; rfl
  rw [y7] at w4
  rw [← hy] at hfit hsane ⊢
  clear hy
  cases q5 : m.known
  · rw [q5] at w1 w2 y4
    have hk : tickRuns y = y := by unfold tickRuns; rw [y4]; rfl
    rw [hk]
    obtain ⟨_, e1, f, rfl⟩ := law237 y (hfit.small (by omega)) (by have := hfit.wants; omega) hfit.runs hfit.asks (by have := hfit.gives; omega)
    have key := fin234 y ⟨hfit.wants, hfit.runs, hfit.asc, hfit.asks, by have := hfit.gives; omega⟩
    simp only [Mate.refs, Mate.arrs, Mate.c, mAsks, y1, y2, y3, y4, y5, y6, y8, y9] at e1
    simp only [Mate.c, mAsks, y1, y2, y3, y4, y5, y6, y8, y9] at key
    cases f <;> simp [c234_cut, w1, w2, w4, q2, hw, q3, q4, q5, e1, AO.isArr, mAsks, y1, y2, y3, y4, y5, y6, y8, y9] <;> refine key _ ?_ <;> simp [head234, mAsks, y1, y2, y3, y4, y5, y6, y8, y9, zeroM]
  · rw [q5] at w1 w2 y4
    have hk : tickRuns y = mLives y := by unfold tickRuns; rw [y4]; rfl
    rw [hk]
    have hfit2 := mLives_fit hfit
    obtain ⟨_, e1, f, rfl⟩ := law238 y (hfit.small (by omega)) (by have := hfit.wants; omega) hfit.runs hfit.asc hsane (by have := hfit.asks; omega) (by have := hfit.gives; omega)
    obtain ⟨_, e2, f2, rfl⟩ := law237 (mLives y) (hfit2.small (by omega)) (by have := hfit2.wants; omega) hfit2.runs hfit2.asks (by have := hfit2.gives; omega)
    have key := fin234 (mLives y) hfit2
    obtain ⟨x, hx⟩ : ∃ x : Mate, x = mLives y := ⟨_, rfl⟩
    have x1 : x.name = m.name := by rw [hx]; exact y1
    have x2 : x.up = true := by rw [hx]; exact y2
    have x3 : x.clock = m.clock + rate := by rw [hx]; exact y3
    have x4 : x.known = true := by rw [hx]; exact y4
    have x5 : x.seen = m.seen := by rw [hx]; exact y5
    have x6 : x.wants = m.wants := by rw [hx]; exact y6
    rw [← hx] at e1 e2 key ⊢
    clear hx
    simp only [Mate.refs, Mate.arrs, Mate.c, mAsks, x1, x2, x3, x4, x5, x6] at e2
    simp only [Mate.refs, Mate.arrs, Mate.c, x1, x2, x3, x4, x5, x6, y1, y2, y3, y4, y5, y6, y8, y9] at e1
    simp only [Mate.c, mAsks, x1, x2, x3, x4, x5, x6] at key
    cases f <;> cases f2 <;> simp [c234_cut, w1, w2, w4, q2, hw, q3, q4, q5, e1, e2, AO.isArr, mAsks, x1, x2, x3, x4, x5, x6] <;> refine key _ ?_ <;> simp [head234, mAsks, x1, x2, x3, x4, x5, x6, zeroM]
end Go.Proofs.YtpiljklnekefoaaGreatDoor
