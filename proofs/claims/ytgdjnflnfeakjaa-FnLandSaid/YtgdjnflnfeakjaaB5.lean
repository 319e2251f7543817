/- The arguments of a law, read as the abstract machine's values; a whole call from outside. · A law's call from outside: its arguments read, nothing below turned, its answer. · The laws' arguments, read as the program's data. · Draws: the reader of the code. · Layer 1: names, holds and wants: what the program's and the reference's checks compute. · Layer 2: runs: what the program's and the reference's checks compute. · Layer 4: asks, and what a mate must be. · Layer 6: the book of grants: what it must be. · Layer 8: worlds: what they must be. · Layer 3: ticks of runs. · Layer 5: copies of mates; falls and rises. · Layer 8: has a world settled? · Layer 3: a tick of a run's life. · Draws: wants and runs. · Runs that end in some result of a kind. · Draws: decimals, lists of wants and of runs. · Draws: mates. · Draws: a valid mate. · Draws: a mate that is spoilt. · Draws: any mate, and one that falls. · The library's functions in the abstract machine; sizes of texts. · Layer 7: what is sent, as a text. · What is valid, said of lists as wholes. · The laws' own helpers, on wants: copies, sizes, comparison with the same. · The laws' own helpers, on runs. · The laws' own helpers: marks. · The laws' own helpers: marks on runs. · The laws' own helpers, on asks and mates. · The laws' own helpers: sizes only go down. · The laws' own helpers: marks on mates. · The laws' own helpers, on parcels. · Layer 7: a parcel's text: the plain function; the program's. · A text cut at a byte (spec.l7Cut), a word of a row (spec.l7At), a short number (spec.l7Number): what they answer. · spec.MateRead: a text read loosely, written again, compared. -/
import Derived.Test.YtgdjnflnfeakjaaB4
import Derived.Carry
import Derived.ChangeArms
import Derived.DataReads
import Derived.Test.YtgdjnflnfeakjaaB2
namespace Go.Proofs.Ytgdjnflnfeakjaa
open Go Go.RowKit Go.WideShapes
set_option linter.unusedSimpArgs false

/-- The shape of a value's cells. -/
inductive Sh where
  | bool
  | int (k : IntKind)
  | str
  | sl (row : List Sh)

mutual
def Fits : Sh → AV → Prop
  | .bool, c => ∃ b, c = .bool b
  | .int k, c => ∃ n, c = .int k n ∧ (Lit.int k n).wf = true
  | .str, c => ∃ s : ByteArray, c = .str s ∧ s.size ≤ maxLen
  | .sl row, c => ∃ xs, c = .sl .bor row.length xs ∧ xs.length ≤ maxLen ∧ ∀ r ∈ xs, FitsL row r
def FitsL : List Sh → List AV → Prop
  | [], [] => True
  | s :: ss, c :: cs => Fits s c ∧ FitsL ss cs
  | _, _ => False
end

theorem FitsL.append : ∀ {as bs : List Sh} {cs ds : List AV}, FitsL as cs → FitsL bs ds → FitsL (as ++ bs) (cs ++ ds)
  | [], _, [], _, _, h => h
  | _ :: _, _, _ :: _, _, h, k => by
    simp only [FitsL, List.cons_append] at h ⊢
    exact ⟨h.1, FitsL.append h.2 k⟩
  | [], _, _ :: _, _, h, _ => by simp [FitsL] at h
  | _ :: _, _, [], _, h, _ => by simp [FitsL] at h

theorem FitsL.len : ∀ {as : List Sh} {cs : List AV}, FitsL as cs → cs.length = as.length
  | [], [], _ => rfl
  | _ :: _, _ :: _, h => by simp only [FitsL] at h; simp [FitsL.len h.2]
  | [], _ :: _, h => by simp [FitsL] at h
  | _ :: _, [], h => by simp [FitsL] at h

def shFs (F : TypeId → Option (List Sh)) (P : Program) : Nat → List Field → Option (List Sh)
  | _, [] => some []
  | off, f :: fs => match F f.type with
    | some a => if f.offset = off ∧ P.cellsOf f.type = a.length then match shFs F P (off + a.length) fs with
      | some b => some (a ++ b)
      | none => none
      else none
    | none => none

/-- The shape of a type's cells. -/
def shOf (P : Program) : Nat → TypeId → Option (List Sh)
  | 0, _ => none
  | d + 1, t => match P.underlying t with
    | some .bool => some [.bool]
    | some (.int k) => some [.int k]
    | some .string => some [.str]
    | some (.slice e) => match shOf P d e with
      | some row => if P.cellsOf e = row.length ∧ row.length ≠ 0 then some [.sl row] else none
      | none => none
    | some (.struct fs) => match shFs (shOf P d) P 0 fs.toList with
      | some a => if P.cellsOf t = a.length then some a else none
      | none => none
    | _ => none

section
variable {H : Type} {enc : TypeId × Value → H} {P : Program} {W : World} {base : Nat} {spare : Nat → Bool} {held : Bool}

def Old (W : World) (b : Nat) : Prop := b < W.heap.size

/-- Cells that read as these. -/
structure ReadL (W : World) (cs : List Value) (sh : List Sh) (avs : List AV) : Prop where
  fits : FitsL sh avs
  len : cs.length = avs.length
  bor : ∀ (j : Nat) (u : Value) (c : AV), cs[j]? = some u → avs[j]? = some c → Bor W (Old W) u c

theorem ReadL.one {u : Value} {s : Sh} {c : AV} (hf : Fits s c) (hb : Bor W (Old W) u c) : ReadL W [u] [s] [c] := by
  refine ⟨⟨hf, trivial⟩, rfl, fun j v d hv hd => ?_⟩
  cases j with
  | zero => simp only [List.getElem?_cons_zero, Option.some.injEq] at hv hd; subst hv; subst hd; exact hb
  | succ j => simp at hv

theorem fields_read {F : TypeId → Option (List Sh)} {n : Nat} {cs : List Value} : ∀ (fs : List Field) (off : Nat) (sh : List Sh), shFs F P off fs = some sh → cs.length = off + sh.length →
    (∀ f ∈ fs, ∀ a, F f.type = some a → ∀ cs' y, DataW.trod enc P W base spare held n f.type cs' = some y → ∃ avs, ReadL W cs' a avs) →
    (∀ f ∈ fs, ∃ y, DataW.trod enc P W base spare held n f.type ((cs.drop f.offset).take (P.cellsOf f.type)) = some y) → ∃ avs, ReadL W (cs.drop off) sh avs
  | [], off, sh, hs, hl, _, _ => by
    simp only [shFs, Option.some.injEq] at hs
    subst hs
    refine ⟨[], trivial, by simp at hl ⊢; omega, fun j u c _ hc => by simp at hc⟩
  | f :: fs, off, sh, hs, hl, hF, hr => by
    simp only [shFs] at hs
    cases hf : F f.type with
    | none => rw [hf] at hs; cases hs
    | some a =>
      rw [hf] at hs
      simp only at hs
      split at hs
      case isFalse => cases hs
      rename_i hoff
      obtain ⟨hoff, hsz⟩ := hoff
      cases hb : shFs F P (off + a.length) fs with
      | none => rw [hb] at hs; cases hs
      | some b =>
        rw [hb] at hs
        simp only [Option.some.injEq] at hs
        subst hs
        rw [List.length_append] at hl
        obtain ⟨y, hy⟩ := hr f List.mem_cons_self
        obtain ⟨as, h1⟩ := hF f List.mem_cons_self a hf _ y hy
        obtain ⟨bs, h2⟩ := fields_read fs (off + a.length) b hb (by omega) (fun g hg => hF g (List.mem_cons_of_mem _ hg)) (fun g hg => hr g (List.mem_cons_of_mem _ hg))
        rw [hoff, hsz] at h1
        have hsplit : cs.drop off = (cs.drop off).take a.length ++ cs.drop (off + a.length) := by rw [← List.drop_drop, List.take_append_drop]
        have hla : ((cs.drop off).take a.length).length = a.length := by simp; omega
        have hlas := h1.fits.len
        refine ⟨as ++ bs, h1.fits.append h2.fits, by rw [hsplit, List.length_append, h1.len, h2.len, List.length_append], fun j u c hu hc => ?_⟩
        rw [hsplit] at hu
        by_cases hj : j < a.length
        · rw [List.getElem?_append_left (by omega)] at hu hc
          exact h1.bor j u c hu hc
        · rw [List.getElem?_append_right (by omega), hla] at hu
          rw [List.getElem?_append_right (by omega), hlas] at hc
          exact h2.bor _ u c hu hc

theorem cells_read : ∀ (d : Nat) (t : TypeId) (sh : List Sh), shOf P d t = some sh → ∀ (n : Nat) (cs : List Value) (y : DataW H × List MemPlace), DataW.trod enc P W base spare held n t cs = some y → ∃ avs, ReadL W cs sh avs
  | 0, _, _, hs => by cases hs
  | d + 1, t, sh, hs => by
    intro n cs y hy
    simp only [shOf] at hs
    cases ht : P.underlying t with
    | none => rw [ht] at hs; cases hs
    | some td =>
      rw [ht] at hs
      cases td <;> simp only [reduceCtorEq, Option.some.injEq] at hs
      · subst hs
        obtain ⟨b, rfl, _⟩ := DataW.trod_bool ht hy
        exact ⟨[.bool b], .one ⟨b, rfl⟩ (.bool b)⟩
      · subst hs
        obtain ⟨k, rfl, _, hw⟩ := DataW.trod_int ht hy
        exact ⟨[.int _ k], .one ⟨k, rfl, hw⟩ (.int _ _)⟩
      · subst hs
        obtain ⟨s, rfl, _, hw⟩ := DataW.trod_string ht hy
        exact ⟨[.str s], .one ⟨s, rfl, hw⟩ (.str _)⟩
      · rename_i e
        cases he : shOf P d e with
        | none => rw [he] at hs; cases hs
        | some row =>
          rw [he] at hs
          simp only at hs
          split at hs
          case isFalse => cases hs
          rename_i hsz
          obtain ⟨hsz, hpos⟩ := hsz
          simp only [Option.some.injEq] at hs
          subst hs
          rcases DataW.trod_slice ht hy with ⟨rfl, _⟩ | ⟨a, len, cap, elems, rest, m, _, rfl, _, _, hlc, hcm, hel, hget, _⟩
          · exact ⟨[.sl .bor row.length []], .one ⟨[], rfl, by simp, by simp⟩ (.nil _ _ _ _)⟩
          · by_cases hz : len = 0
            · subst hz
              exact ⟨[.sl .bor row.length []], .one ⟨[], rfl, by simp, by simp⟩ (.nil _ _ _ _)⟩
            · -- every row
              have hrow : ∀ i, ∃ avs csi, i < len → (∀ j, j < row.length → W.cell? ((a.add (i * row.length)).add j) = csi[j]?) ∧ csi.length = row.length ∧ ReadL W csi row avs := by
                intro i
                by_cases hi : i < len
                · have hgi := hget i hi
                  rw [show elems[i]? = some (elems[i]'(by omega)) from List.getElem?_eq_getElem _] at hgi
                  obtain ⟨csi, hc1, hc2⟩ := Option.bind_eq_some_iff.1 hgi
                  rw [hsz] at hc1
                  obtain ⟨_, hl, hcell⟩ := World.cells?_some hc1
                  obtain ⟨avs, hav⟩ := cells_read d e row he m csi _ hc2
                  exact ⟨avs, csi, fun _ => ⟨hcell, hl, hav⟩⟩
                · exact ⟨[], [], fun h => absurd h hi⟩
              let avr : Nat → List AV := fun i => (hrow i).choose
              let csr : Nat → List Value := fun i => (hrow i).choose_spec.choose
              have hr : ∀ i, i < len → (∀ j, j < row.length → W.cell? ((a.add (i * row.length)).add j) = (csr i)[j]?) ∧ (csr i).length = row.length ∧ ReadL W (csr i) row (avr i) := fun i hi => (hrow i).choose_spec.choose_spec hi
              obtain ⟨h01, h02, _⟩ := hr 0 (by omega)
              have hc00 : (csr 0)[0]? = some ((csr 0)[0]'(by omega)) := List.getElem?_eq_getElem _
              have hcell0 := h01 0 (by omega)
              rw [hc00] at hcell0
              have hspot : a.spot = none := by
                have := World.cell?_spot hcell0
                obtain ⟨b, off, sp⟩ := a
                unfold Addr.add at this
                split at this <;> split at this <;> simp_all
              obtain ⟨b, off, sp⟩ := a
              simp only at hspot
              subst hspot
              have hadd : ∀ i j, ((⟨b, off, none⟩ : Addr).add (i * row.length)).add j = ⟨b, off + i * row.length + j, none⟩ := fun i j => by rw [add_none, add_none]
              have hold : Old W b := by
                rw [hadd] at hcell0
                unfold World.cell? at hcell0
                unfold Old
                rcases Nat.lt_or_ge b W.heap.size with h | h
                · exact h
                · simp [Array.getElem?_eq_none h] at hcell0
              let xs : List (List AV) := (List.range len).map avr
              have hxl : xs.length = len := by simp [xs]
              have hxi : ∀ i r, xs[i]? = some r → i < len ∧ r = avr i := fun i r hi => by
                have h1 := (List.getElem?_eq_some_iff.1 hi).1
                have h2 : i < len := by omega
                simp only [xs, List.getElem?_map, List.getElem?_range h2, Option.map_some, Option.some.injEq] at hi
                exact ⟨h2, hi.symm⟩
              refine ⟨[.sl .bor row.length xs], .one ⟨xs, rfl, by omega, fun r hrm => ?_⟩ ?_⟩
              · obtain ⟨i, hi⟩ := List.getElem?_of_mem hrm
                obtain ⟨h1, rfl⟩ := hxi i r hi
                exact (hr i h1).2.2.fits
              · have hb := Bor.sl (w := W) (R := Old W) .bor row.length xs b off cap (fun i j => (csr i)[j]?.getD undef) (by omega) hold (fun r hrm => by
                    obtain ⟨i, hi⟩ := List.getElem?_of_mem hrm
                    obtain ⟨h1, rfl⟩ := hxi i r hi
                    exact (hr i h1).2.2.fits.len) (fun i j c hc => by
                    obtain ⟨r, h1, h2⟩ := cellAt_some.1 hc
                    obtain ⟨hi, rfl⟩ := hxi i r h1
                    obtain ⟨q1, q2, q3⟩ := hr i hi
                    have hj := (List.getElem?_eq_some_iff.1 h2).1
                    have hjl : j < row.length := by rw [← q3.fits.len]; exact hj
                    rw [← hadd, q1 j hjl, List.getElem?_eq_getElem (by omega)]; rfl) (fun i j c hc => by
                    obtain ⟨r, h1, h2⟩ := cellAt_some.1 hc
                    obtain ⟨hi, rfl⟩ := hxi i r h1
                    obtain ⟨q1, q2, q3⟩ := hr i hi
                    have hj := (List.getElem?_eq_some_iff.1 h2).1
                    have hjl : j < row.length := by rw [← q3.fits.len]; exact hj
                    have hu : (csr i)[j]? = some ((csr i)[j]'(by omega)) := List.getElem?_eq_getElem _
                    simp only [hu, Option.getD_some]
                    exact q3.bor j _ c hu h2)
                rw [hxl] at hb
                exact hb
      · rename_i fs
        cases hfs : shFs (shOf P d) P 0 fs.toList with
        | none => rw [hfs] at hs; cases hs
        | some a =>
          rw [hfs] at hs
          simp only at hs
          split at hs
          case isFalse => cases hs
          rename_i hsz
          simp only [Option.some.injEq] at hs
          subst hs
          obtain ⟨xs, m, _, _, hcl, hxl, hget⟩ := DataW.trod_struct ht hy
          have := fields_read (enc := enc) (W := W) (base := base) (spare := spare) (held := held) (n := m) (cs := cs) fs.toList 0 a hfs (by omega) (fun f _ a' ha cs' y hy => cells_read d f.type a' ha m cs' y hy) (fun f hf => by
            obtain ⟨i, hi⟩ := List.getElem?_of_mem hf
            have hi' : fs[i]? = some f := by simpa using hi
            have hlt := (Array.getElem?_eq_some_iff.1 hi').1
            exact ⟨xs[i]'(by omega), (hget i f hi').trans (List.getElem?_eq_getElem _)⟩)
          simpa using this
end
end Go.Proofs.Ytgdjnflnfeakjaa

namespace Go.Proofs.Ytgdjnflnfeakjaa
open Go Go.RowKit Go.WideShapes
set_option linter.unusedSimpArgs false

def cx0 (P : Program) (num : Nat → Option FuncId) (fz : List (Nat × Obj)) (W : World) : Cx := ⟨P, num, Old W, fun _ => False, Old W, Old W, W, 0, fun _ => none, fun _ => undef, fz⟩
def g0 (W : World) : Gh := ⟨fun _ => undef, fun _ _ => False, Old W, Old W, fun _ => False⟩

/-- An argument reads as this. -/
def ArgRel (num : Nat → Option FuncId) (W : World) (v : Value) (c : AV) : Prop := SRel num W (Old W) (g0 W) (fun _ => none) 0 v c

theorem mem0 (P : Program) (num : Nat → Option FuncId) {fz : List (Nat × Obj)} (W : World) (hfz : ∀ p ∈ fz, W.heap[p.1]? = some p.2) (hsrt : SrtAll P num) : Mem (cx0 P num fz W) (fun _ => none) 0 (g0 W) W :=
  ⟨fun _ _ h => (nomatch h), fun _ _ h => (nomatch h), fun _ _ _ _ _ h => (nomatch h), fun _ _ _ h => (nomatch h), fun _ h => h, fun _ h => h, fun _ h => .inl h, fun _ h => h, fun _ h => h, fun _ h => .inl h,
    fun _ h => absurd h (Nat.not_lt_zero _), fun _ _ h => absurd h (Nat.not_lt_zero _), fun _ h => h, fun _ h => ⟨h, fun h => h⟩, fun _ h => ⟨h, fun h => h⟩, FrameW.refl _ _, fun p hp => ⟨(Array.getElem?_eq_some_iff.1 (hfz p hp)).1, hfz p hp⟩, hsrt⟩

/-- What came with the call from outside nobody writes. -/
theorem ArgRel.imm {num : Nat → Option FuncId} {W : World} {v : Value} {sz : Nat} {xs : List (List AV)} (h : ArgRel num W v (.sl .bor sz xs)) : ArgRel num W v (.sl .imm sz xs) := by
  cases h with
  | sl _ _ _ _ h1 hm _ _ => exact .sl _ _ _ _ h1 (fun _ => (hm rfl).md) (fun e he => by cases he) (by simp)

theorem fits_lend : ∀ {s : Sh} {c : AV}, Fits s c → c.lend .bor = c
  | .bool, c, h => by simp only [Fits] at h; obtain ⟨b, rfl⟩ := h; rfl
  | .int k, c, h => by simp only [Fits] at h; obtain ⟨n, rfl, _⟩ := h; rfl
  | .str, c, h => by simp only [Fits] at h; obtain ⟨s, rfl, _⟩ := h; rfl
  | .sl row, c, h => by simp only [Fits] at h; obtain ⟨xs, rfl, _⟩ := h; rfl

theorem FitsL.get : ∀ {ss : List Sh} {cs : List AV}, FitsL ss cs → ∀ (j : Nat) (c : AV), cs[j]? = some c → ∃ s, ss[j]? = some s ∧ Fits s c
  | [], [], _, j, c, h => by simp at h
  | s :: ss, d :: cs, h, j, c, hc => by
    simp only [FitsL] at h
    cases j with
    | zero => simp only [List.getElem?_cons_zero, Option.some.injEq] at hc; subst hc; exact ⟨s, rfl, h.1⟩
    | succ j => obtain ⟨s', h1, h2⟩ := FitsL.get h.2 j c (by simpa using hc); exact ⟨s', by simpa using h1, h2⟩
  | [], _ :: _, h, _, _, _ => by simp [FitsL] at h
  | _ :: _, [], h, _, _, _ => by simp [FitsL] at h

section
variable {H : Type} {enc : TypeId × Value → H} {P : Program} {num : Nat → Option FuncId} {W : World} {r : Reach} {b0 base : Nat} {spare : Nat → Bool} {held : Bool} {t : TypeId} {v : Value} {d : DataW H} {ps : List MemPlace}

theorem ReadL.arg {cs : List Value} {sh : List Sh} {avs : List AV} (h : ReadL W cs sh avs) {j : Nat} {u : Value} {c : AV} (hu : cs[j]? = some u) (hc : avs[j]? = some c) : ArgRel num W u c ∧ u.oneCell' = true := by
  obtain ⟨s, _, hs⟩ := h.fits.get j c hc
  have hb := h.bor j u c hu hc
  have := SRel.of_bor (num := num) (w := W) (R := Old W) (g := g0 W) (h := fun _ => none) (ep := 0) (m := .bor) hb (fun e he => by cases he) (by simp)
  rw [fits_lend hs] at this
  exact ⟨this, hb.one⟩

theorem arg_struct {fs : Array Field} (ht : P.underlying t = some (.struct fs)) {k : Nat} {sh : List Sh} (hs : shOf P k t = some sh) (hval : Value.okWide P W r b0 t v) (hd : DataW.Trod enc P W base spare held t v d ps) :
    ∃ avs, FitsL sh avs ∧ ArgRel num W v (.agg avs) := by
  obtain ⟨vs, rfl, _⟩ := okWide_struct ht hval
  obtain ⟨n, hn⟩ := hd
  obtain ⟨avs, ha⟩ := cells_read k t sh hs n _ _ hn
  simp only [Value.cells] at ha
  refine ⟨avs, ha.fits, .agg vs avs (by simpa using ha.len) (fun i u hu => ?_) (fun i u c hu hc => (ha.arg (num := num) (by simpa using hu) hc).1)⟩
  have hi := (Array.getElem?_eq_some_iff.1 hu).1
  have hl := ha.len
  rw [Array.length_toList] at hl
  exact (ha.arg (num := num) (j := i) (by simpa using hu) (List.getElem?_eq_getElem (by omega))).2

theorem arg_one {s : Sh} {k : Nat} (hs : shOf P k t = some [s]) (hv : v.cells.toList = [v]) (hd : DataW.Trod enc P W base spare held t v d ps) : ∃ c, Fits s c ∧ ArgRel num W v c := by
  obtain ⟨n, hn⟩ := hd
  obtain ⟨avs, ha⟩ := cells_read k t [s] hs n _ _ hn
  rw [hv] at ha
  have hl := ha.fits.len
  match avs, hl, ha with
  | [c], _, ha =>
    have hf := ha.fits
    simp only [FitsL, and_true] at hf
    exact ⟨c, hf, (ha.arg (j := 0) rfl rfl).1⟩

theorem arg_int {q : IntKind} (ht : P.underlying t = some (.int q)) (hval : Value.okWide P W r b0 t v) (hd : DataW.Trod enc P W base spare held t v d ps) : ∃ n, ArgRel num W v (.int q n) ∧ (Lit.int q n).wf = true := by
  obtain ⟨n, rfl⟩ := okWide_int ht hval
  obtain ⟨c, h1, h2⟩ := arg_one (num := num) (k := 1) (s := .int q) (by simp [shOf, ht]) rfl hd
  simp only [Fits] at h1
  obtain ⟨m, rfl, hw⟩ := h1
  exact ⟨m, h2, hw⟩

theorem arg_str (ht : P.underlying t = some .string) (hval : Value.okWide P W r b0 t v) (hd : DataW.Trod enc P W base spare held t v d ps) : ∃ s : ByteArray, ArgRel num W v (.str s) ∧ s.size ≤ maxLen := by
  obtain ⟨n, rfl⟩ := okWide_string ht hval
  obtain ⟨c, h1, h2⟩ := arg_one (num := num) (k := 1) (s := .str) (by simp [shOf, ht]) rfl hd
  simp only [Fits] at h1
  obtain ⟨m, rfl, hw⟩ := h1
  exact ⟨m, h2, hw⟩

theorem arg_slice {e : TypeId} (ht : P.underlying t = some (.slice e)) {k : Nat} {row : List Sh} (hs : shOf P k t = some [.sl row]) (hval : Value.okWide P W r b0 t v) (hd : DataW.Trod enc P W base spare held t v d ps) :
    ∃ xs, ArgRel num W v (.sl .bor row.length xs) ∧ xs.length ≤ maxLen ∧ ∀ x ∈ xs, FitsL row x := by
  obtain ⟨a, len, cap, rfl⟩ := okWide_slice ht hval
  obtain ⟨c, h1, h2⟩ := arg_one (num := num) (k := k) (s := .sl row) hs rfl hd
  simp only [Fits] at h1
  obtain ⟨xs, rfl, h3, h4⟩ := h1
  exact ⟨xs, h2, h3, h4⟩
end

/-- The arguments of a call, side by side. -/
inductive ArgsRel (num : Nat → Option FuncId) (W : World) : List Value → List AV → Prop
  | nil : ArgsRel num W [] []
  | cons (v : Value) (c : AV) (vs : List Value) (cs : List AV) (h : ArgRel num W v c) (hs : ArgsRel num W vs cs) : ArgsRel num W (v :: vs) (c :: cs)

theorem ArgsRel.get {num : Nat → Option FuncId} {W : World} {vs : List Value} {cs : List AV} (h : ArgsRel num W vs cs) : vs.length = cs.length ∧ ∀ (i : Nat) (v : Value) (c : AV), vs[i]? = some v → cs[i]? = some c → ArgRel num W v c := by
  induction h with
  | nil => exact ⟨rfl, fun i v c hv => by simp at hv⟩
  | cons v c vs cs h _ ih =>
    refine ⟨by simp [ih.1], fun i u d hu hd => ?_⟩
    cases i with
    | zero => simp only [List.getElem?_cons_zero, Option.some.injEq] at hu hd; subst hu; subst hd; exact h
    | succ i => exact ih.2 i u d (by simpa using hu) (by simpa using hd)

/-- A call from outside that answers with a truth value, and turns nothing that was there. -/
theorem law_calls {P : Program} {num : Nat → Option FuncId} {fz : List (Nat × Obj)} {f : FuncId} {fn : Func} {body : Code} (hf : P.funcs[f]? = some fn) (hb : fn.body = some body) (hn : fn.name ≠ "runtime.NumGoroutine") {args : List AV} {ans : Bool}
    (hC : Contract P num fz f args [] (.bool ans) []) {W : World} (hfz : ∀ p ∈ fz, W.heap[p.1]? = some p.2) (hsrt : SrtAll P num) {vs : Array Value} (ha : ArgsRel num W vs.toList args) : Calls P f vs W fun e W' => e = .returned (.bool ans) ∧ Below W.heap.size W W' := by
  obtain ⟨hl, hg⟩ := ha.get
  rw [Array.length_toList] at hl
  have h := hC (cx0 P num fz W) (g0 W) W vs rfl rfl rfl rfl rfl rfl rfl (fun _ h => h.elim) (mem0 P num W hfz hsrt) hl (fun i v c hv hc => hg i v c (by simpa using hv) hc)
  have h2 := h ⟨some 0, .move (.tmp 0), 0, "", #[], none⟩ ⟨#[undef], []⟩ (fun a' w' => ∃ I N S fo, Post (cx0 P num fz W) w' (a'.tmps.getD 0 undef) (.bool ans) [] I N S fo) (fun _ _ _ => False) (fun v w' hp => by
    have : ((⟨#[undef], []⟩ : Act).put (some 0) v).tmps.getD 0 undef = v := by simp [Act.put]
    rw [this]; exact hp)
  have hcf : (callFunc f vs).run P W = .ok (.enter f vs) W := by simp [callFunc, hf, hn, hb]
  rw [hcf, Oper.upon_enter] at h2
  refine h2.mono fun e w' he => ?_
  cases e with
  | panicked _ => exact he.elim
  | outgrown => obtain ⟨_, _, h⟩ := he; exact h.elim
  | returned v =>
    obtain ⟨I, N, S, fo, hp⟩ := he
    have hv : ((⟨#[undef], []⟩ : Act).put (some 0) v).tmps.getD 0 undef = v := by simp [Act.put]
    rw [hv] at hp
    have hres := hp.res
    have : v = .bool ans := by
      cases hres with
      | one _ _ _ h _ => cases h with
        | one _ _ _ h _ => cases h; rfl
    subst this
    exact ⟨rfl, hp.frame.os, hp.frame.tape, hp.frame.output, hp.frame.size, fun k hk => hp.frame.block k hk (fun h => h)⟩
end Go.Proofs.Ytgdjnflnfeakjaa

namespace Go.Proofs.Ytgdjnflnfeakjaa
open Go Go.RowKit Go.WideShapes
set_option linter.unusedSimpArgs false

def I64 (n : Int) : Prop := -9223372036854775808 ≤ n ∧ n ≤ 9223372036854775807
theorem i64_wf {n : Int} (h : (Lit.int .i64 n).wf = true) : I64 n := by
  simp [Lit.wf, IntKind.min, IntKind.max, IntKind.signed, IntKind.bits] at h
  unfold I64
  omega

def shWant : List Sh := [.str, .int .i64, .str, .int .i64, .int .i64, .int .i64, .int .i64]
def shRun : List Sh := shWant ++ [.int .i64, .int .i64, .int .i64, .int .i64]
def shAsk : List Sh := [.str, .str, .int .i64, .int .i64]
def shMate : List Sh := [.str, .bool, .int .i64, .bool, .int .i64, .sl shWant, .sl shRun, .sl shAsk, .sl shAsk]
def shParcel : List Sh := [.int .i64, .str, .int .i64, .sl shWant, .str, .str, .int .i64]
def shGrant : List Sh := [.str, .str, .str, .int .i64, .int .i64]
def shPlace : List Sh := [.str, .int .i64, .sl shWant]
def shLand : List Sh := [.int .i64, .sl shGrant, .sl shPlace]
def shWorld : List Sh := shLand ++ [.sl shMate, .sl [.str]]
def shEvent : List Sh := [.int .i64, .int .i64, .int .i64, .sl shWant, .sl [.int .i64]]

structure Want.wf (w : Want) : Prop where
  copy : w.copy.size ≤ maxLen
  hold : w.hold.size ≤ maxLen
  version : I64 w.version
  pull : I64 w.pull
  start : I64 w.start
  dies : I64 w.dies
  grace : I64 w.grace
structure Run.wf (r : Run) : Prop where
  want : r.want.wf
  state : I64 r.state
  left : I64 r.left
  falls : I64 r.falls
  til : I64 r.til
structure Ask.wf (a : Ask) : Prop where
  hold : a.hold.size ≤ maxLen
  copy : a.copy.size ≤ maxLen
  first : I64 a.first
  at_ : I64 a.at_
structure ListWf {α : Type} (p : α → Prop) (xs : List α) : Prop where
  len : xs.length ≤ maxLen
  all : ∀ x ∈ xs, p x
structure Mate.wf (m : Mate) : Prop where
  name : m.name.size ≤ maxLen
  clock : I64 m.clock
  seen : I64 m.seen
  wants : ListWf Want.wf m.wants
  runs : ListWf Run.wf m.runs
  asks : ListWf Ask.wf m.asks
  gives : ListWf Ask.wf m.gives
structure Parcel.wf (p : Parcel) : Prop where
  kind : I64 p.kind
  berth : p.berth.size ≤ maxLen
  seen : I64 p.seen
  wants : ListWf Want.wf p.wants
  hold : p.hold.size ≤ maxLen
  copy : p.copy.size ≤ maxLen
  at_ : I64 p.at_
structure Grant.wf (g : Grant) : Prop where
  hold : g.hold.size ≤ maxLen
  berth : g.berth.size ≤ maxLen
  copy : g.copy.size ≤ maxLen
  at_ : I64 g.at_
  til : I64 g.til
structure Place.wf (p : Place) : Prop where
  berth : p.berth.size ≤ maxLen
  seen : I64 p.seen
  wants : ListWf Want.wf p.wants
structure Land.wf (l : Land) : Prop where
  time : I64 l.time
  grants : ListWf Grant.wf l.grants
  places : ListWf Place.wf l.places
structure Wld.wf (w : Wld) : Prop where
  land : w.land.wf
  mates : ListWf Mate.wf w.mates
  flight : ListWf (fun s : T => s.size ≤ maxLen) w.flight
structure Event.wf (e : Event) : Prop where
  kind : I64 e.kind
  a : I64 e.a
  b : I64 e.b
  wants : ListWf Want.wf e.wants
  rates : ListWf I64 e.rates

theorem fits_str {c : AV} (h : Fits .str c) : ∃ s : T, c = .str s ∧ s.size ≤ maxLen := by simpa only [Fits] using h
theorem fits_int {c : AV} (h : Fits (.int .i64) c) : ∃ n, c = .int .i64 n ∧ I64 n := by
  simp only [Fits] at h
  obtain ⟨n, h1, h2⟩ := h
  exact ⟨n, h1, i64_wf h2⟩
theorem fits_bool {c : AV} (h : Fits .bool c) : ∃ b, c = .bool b := by simpa only [Fits] using h
theorem fits_list {α : Type} {row : List Sh} {cf : α → List AV} {p : α → Prop} (hr : ∀ c, FitsL row c → ∃ x, c = cf x ∧ p x) {c : AV} (h : Fits (.sl row) c) : ∃ xs, c = .sl .bor row.length (xs.map cf) ∧ ListWf p xs := by
  simp only [Fits] at h
  obtain ⟨rows, rfl, hl, ha⟩ := h
  have : ∀ rows : List (List AV), (∀ r ∈ rows, FitsL row r) → ∃ xs : List α, rows = xs.map cf ∧ ∀ x ∈ xs, p x := by
    intro rows
    induction rows with
    | nil => intro _; exact ⟨[], rfl, by simp⟩
    | cons r rows ih =>
      intro h
      obtain ⟨x, h1, h2⟩ := hr r (h r List.mem_cons_self)
      obtain ⟨xs, h3, h4⟩ := ih fun r hr => h r (List.mem_cons_of_mem _ hr)
      exact ⟨x :: xs, by rw [h1, h3]; rfl, fun y hy => by
        rcases List.mem_cons.1 hy with rfl | hy
        · exact h2
        · exact h4 y hy⟩
  obtain ⟨xs, rfl, h2⟩ := this rows ha
  exact ⟨xs, rfl, by simpa using hl, h2⟩
theorem fitsL_nil {c : List AV} (h : FitsL [] c) : c = [] := by
  cases c with
  | nil => rfl
  | cons _ _ => simp [FitsL] at h
theorem fitsL_cons {s : Sh} {ss : List Sh} {c : List AV} (h : FitsL (s :: ss) c) : ∃ d ds, c = d :: ds ∧ Fits s d ∧ FitsL ss ds := by
  cases c with
  | nil => simp [FitsL] at h
  | cons d ds => exact ⟨d, ds, rfl, by simpa [FitsL] using h⟩

theorem want_of {c : List AV} (h : FitsL shWant c) : ∃ w : Want, c = w.c ∧ w.wf := by
  obtain ⟨_, _, rfl, h0, h⟩ := fitsL_cons h
  obtain ⟨_, _, rfl, h1, h⟩ := fitsL_cons h
  obtain ⟨_, _, rfl, h2, h⟩ := fitsL_cons h
  obtain ⟨_, _, rfl, h3, h⟩ := fitsL_cons h
  obtain ⟨_, _, rfl, h4, h⟩ := fitsL_cons h
  obtain ⟨_, _, rfl, h5, h⟩ := fitsL_cons h
  obtain ⟨_, _, rfl, h6, h⟩ := fitsL_cons h
  obtain rfl := fitsL_nil h
  obtain ⟨s, rfl, k0⟩ := fits_str h0
  obtain ⟨n1, rfl, k1⟩ := fits_int h1
  obtain ⟨t, rfl, k2⟩ := fits_str h2
  obtain ⟨n3, rfl, k3⟩ := fits_int h3
  obtain ⟨n4, rfl, k4⟩ := fits_int h4
  obtain ⟨n5, rfl, k5⟩ := fits_int h5
  obtain ⟨n6, rfl, k6⟩ := fits_int h6
  exact ⟨⟨s, n1, t, n3, n4, n5, n6⟩, rfl, k0, k2, k1, k3, k4, k5, k6⟩

theorem run_of {c : List AV} (h : FitsL shRun c) : ∃ r : Run, c = r.c ∧ r.wf := by
  unfold shRun shWant at h
  obtain ⟨_, _, rfl, h0, h⟩ := fitsL_cons h
  obtain ⟨_, _, rfl, h1, h⟩ := fitsL_cons h
  obtain ⟨_, _, rfl, h2, h⟩ := fitsL_cons h
  obtain ⟨_, _, rfl, h3, h⟩ := fitsL_cons h
  obtain ⟨_, _, rfl, h4, h⟩ := fitsL_cons h
  obtain ⟨_, _, rfl, h5, h⟩ := fitsL_cons h
  obtain ⟨_, _, rfl, h6, h⟩ := fitsL_cons h
  obtain ⟨_, _, rfl, h7, h⟩ := fitsL_cons h
  obtain ⟨_, _, rfl, h8, h⟩ := fitsL_cons h
  obtain ⟨_, _, rfl, h9, h⟩ := fitsL_cons h
  obtain ⟨_, _, rfl, h10, h⟩ := fitsL_cons h
  obtain rfl := fitsL_nil h
  obtain ⟨s, rfl, k0⟩ := fits_str h0
  obtain ⟨n1, rfl, k1⟩ := fits_int h1
  obtain ⟨t, rfl, k2⟩ := fits_str h2
  obtain ⟨n3, rfl, k3⟩ := fits_int h3
  obtain ⟨n4, rfl, k4⟩ := fits_int h4
  obtain ⟨n5, rfl, k5⟩ := fits_int h5
  obtain ⟨n6, rfl, k6⟩ := fits_int h6
  obtain ⟨n7, rfl, k7⟩ := fits_int h7
  obtain ⟨n8, rfl, k8⟩ := fits_int h8
  obtain ⟨n9, rfl, k9⟩ := fits_int h9
  obtain ⟨n10, rfl, k10⟩ := fits_int h10
  exact ⟨⟨⟨s, n1, t, n3, n4, n5, n6⟩, n7, n8, n9, n10⟩, rfl, ⟨k0, k2, k1, k3, k4, k5, k6⟩, k7, k8, k9, k10⟩

theorem ask_of {c : List AV} (h : FitsL shAsk c) : ∃ a : Ask, c = a.c ∧ a.wf := by
  obtain ⟨_, _, rfl, h0, h⟩ := fitsL_cons h
  obtain ⟨_, _, rfl, h1, h⟩ := fitsL_cons h
  obtain ⟨_, _, rfl, h2, h⟩ := fitsL_cons h
  obtain ⟨_, _, rfl, h3, h⟩ := fitsL_cons h
  obtain rfl := fitsL_nil h
  obtain ⟨s, rfl, k0⟩ := fits_str h0
  obtain ⟨t, rfl, k1⟩ := fits_str h1
  obtain ⟨n2, rfl, k2⟩ := fits_int h2
  obtain ⟨n3, rfl, k3⟩ := fits_int h3
  exact ⟨⟨s, t, n2, n3⟩, rfl, k0, k1, k2, k3⟩

theorem grant_of {c : List AV} (h : FitsL shGrant c) : ∃ g : Grant, c = g.c ∧ g.wf := by
  obtain ⟨_, _, rfl, h0, h⟩ := fitsL_cons h
  obtain ⟨_, _, rfl, h1, h⟩ := fitsL_cons h
  obtain ⟨_, _, rfl, h2, h⟩ := fitsL_cons h
  obtain ⟨_, _, rfl, h3, h⟩ := fitsL_cons h
  obtain ⟨_, _, rfl, h4, h⟩ := fitsL_cons h
  obtain rfl := fitsL_nil h
  obtain ⟨s, rfl, k0⟩ := fits_str h0
  obtain ⟨t, rfl, k1⟩ := fits_str h1
  obtain ⟨u, rfl, k2⟩ := fits_str h2
  obtain ⟨n3, rfl, k3⟩ := fits_int h3
  obtain ⟨n4, rfl, k4⟩ := fits_int h4
  exact ⟨⟨s, t, u, n3, n4⟩, rfl, k0, k1, k2, k3, k4⟩

theorem mate_of {c : List AV} (h : FitsL shMate c) : ∃ m : Mate, c = m.c .bor ∧ m.wf := by
  obtain ⟨_, _, rfl, h0, h⟩ := fitsL_cons h
  obtain ⟨_, _, rfl, h1, h⟩ := fitsL_cons h
  obtain ⟨_, _, rfl, h2, h⟩ := fitsL_cons h
  obtain ⟨_, _, rfl, h3, h⟩ := fitsL_cons h
  obtain ⟨_, _, rfl, h4, h⟩ := fitsL_cons h
  obtain ⟨_, _, rfl, h5, h⟩ := fitsL_cons h
  obtain ⟨_, _, rfl, h6, h⟩ := fitsL_cons h
  obtain ⟨_, _, rfl, h7, h⟩ := fitsL_cons h
  obtain ⟨_, _, rfl, h8, h⟩ := fitsL_cons h
  obtain rfl := fitsL_nil h
  obtain ⟨s, rfl, k0⟩ := fits_str h0
  obtain ⟨b1, rfl⟩ := fits_bool h1
  obtain ⟨n2, rfl, k2⟩ := fits_int h2
  obtain ⟨b3, rfl⟩ := fits_bool h3
  obtain ⟨n4, rfl, k4⟩ := fits_int h4
  obtain ⟨ws, rfl, k5⟩ := fits_list (fun _ => want_of) h5
  obtain ⟨rs, rfl, k6⟩ := fits_list (fun _ => run_of) h6
  obtain ⟨as, rfl, k7⟩ := fits_list (fun _ => ask_of) h7
  obtain ⟨gs, rfl, k8⟩ := fits_list (fun _ => ask_of) h8
  exact ⟨⟨s, b1, n2, b3, n4, ws, rs, as, gs⟩, rfl, k0, k2, k4, k5, k6, k7, k8⟩

theorem parcel_of {c : List AV} (h : FitsL shParcel c) : ∃ p : Parcel, c = p.c .bor ∧ p.wf := by
  obtain ⟨_, _, rfl, h0, h⟩ := fitsL_cons h
  obtain ⟨_, _, rfl, h1, h⟩ := fitsL_cons h
  obtain ⟨_, _, rfl, h2, h⟩ := fitsL_cons h
  obtain ⟨_, _, rfl, h3, h⟩ := fitsL_cons h
  obtain ⟨_, _, rfl, h4, h⟩ := fitsL_cons h
  obtain ⟨_, _, rfl, h5, h⟩ := fitsL_cons h
  obtain ⟨_, _, rfl, h6, h⟩ := fitsL_cons h
  obtain rfl := fitsL_nil h
  obtain ⟨n0, rfl, k0⟩ := fits_int h0
  obtain ⟨s, rfl, k1⟩ := fits_str h1
  obtain ⟨n2, rfl, k2⟩ := fits_int h2
  obtain ⟨ws, rfl, k3⟩ := fits_list (fun _ => want_of) h3
  obtain ⟨t, rfl, k4⟩ := fits_str h4
  obtain ⟨u, rfl, k5⟩ := fits_str h5
  obtain ⟨n6, rfl, k6⟩ := fits_int h6
  exact ⟨⟨n0, s, n2, ws, t, u, n6⟩, rfl, k0, k1, k2, k3, k4, k5, k6⟩

theorem place_of {c : List AV} (h : FitsL shPlace c) : ∃ p : Place, c = p.c .bor ∧ p.wf := by
  obtain ⟨_, _, rfl, h0, h⟩ := fitsL_cons h
  obtain ⟨_, _, rfl, h1, h⟩ := fitsL_cons h
  obtain ⟨_, _, rfl, h2, h⟩ := fitsL_cons h
  obtain rfl := fitsL_nil h
  obtain ⟨s, rfl, k0⟩ := fits_str h0
  obtain ⟨n1, rfl, k1⟩ := fits_int h1
  obtain ⟨ws, rfl, k2⟩ := fits_list (fun _ => want_of) h2
  exact ⟨⟨s, n1, ws⟩, rfl, k0, k1, k2⟩

theorem land_of {c : List AV} (h : FitsL shLand c) : ∃ l : Land, c = l.c .bor .bor ∧ l.wf := by
  obtain ⟨_, _, rfl, h0, h⟩ := fitsL_cons h
  obtain ⟨_, _, rfl, h1, h⟩ := fitsL_cons h
  obtain ⟨_, _, rfl, h2, h⟩ := fitsL_cons h
  obtain rfl := fitsL_nil h
  obtain ⟨n0, rfl, k0⟩ := fits_int h0
  obtain ⟨gs, rfl, k1⟩ := fits_list (fun _ => grant_of) h1
  obtain ⟨ps, rfl, k2⟩ := fits_list (fun _ => place_of) h2
  exact ⟨⟨n0, gs, ps⟩, rfl, k0, k1, k2⟩

theorem str1_of {c : List AV} (h : FitsL [.str] c) : ∃ s : T, c = [.str s] ∧ s.size ≤ maxLen := by
  obtain ⟨_, _, rfl, h0, h⟩ := fitsL_cons h
  obtain rfl := fitsL_nil h
  obtain ⟨s, rfl, k0⟩ := fits_str h0
  exact ⟨s, rfl, k0⟩
theorem int1_of {c : List AV} (h : FitsL [.int .i64] c) : ∃ n, c = [.int .i64 n] ∧ I64 n := by
  obtain ⟨_, _, rfl, h0, h⟩ := fitsL_cons h
  obtain rfl := fitsL_nil h
  obtain ⟨n, rfl, k0⟩ := fits_int h0
  exact ⟨n, rfl, k0⟩

abbrev rowB (b : Int) : List AV := [.int .u8 b]
def Byte (n : Int) : Prop := 0 ≤ n ∧ n ≤ 255
theorem byte1_of {c : List AV} (h : FitsL [.int .u8] c) : ∃ n, c = rowB n ∧ Byte n := by
  obtain ⟨_, _, rfl, h0, h⟩ := fitsL_cons h
  obtain rfl := fitsL_nil h
  simp only [Fits] at h0
  obtain ⟨n, rfl, hw⟩ := h0
  refine ⟨n, rfl, ?_⟩
  simp [Lit.wf, IntKind.min, IntKind.max, IntKind.signed, IntKind.bits] at hw
  unfold Byte
  omega

theorem world_of {c : List AV} (h : FitsL shWorld c) : ∃ w : Wld, c = w.c .bor .bor ∧ w.wf := by
  unfold shWorld shLand at h
  obtain ⟨_, _, rfl, h0, h⟩ := fitsL_cons h
  obtain ⟨_, _, rfl, h1, h⟩ := fitsL_cons h
  obtain ⟨_, _, rfl, h2, h⟩ := fitsL_cons h
  obtain ⟨_, _, rfl, h3, h⟩ := fitsL_cons h
  obtain ⟨_, _, rfl, h4, h⟩ := fitsL_cons h
  obtain rfl := fitsL_nil h
  obtain ⟨n0, rfl, k0⟩ := fits_int h0
  obtain ⟨gs, rfl, k1⟩ := fits_list (fun _ => grant_of) h1
  obtain ⟨ps, rfl, k2⟩ := fits_list (fun _ => place_of) h2
  obtain ⟨ms, rfl, k3⟩ := fits_list (fun _ => mate_of) h3
  obtain ⟨fs, rfl, k4⟩ := fits_list (fun _ => str1_of) h4
  exact ⟨⟨⟨n0, gs, ps⟩, ms, fs⟩, rfl, ⟨k0, k1, k2⟩, k3, k4⟩

theorem event_of {c : List AV} (h : FitsL shEvent c) : ∃ e : Event, c = e.c .bor ∧ e.wf := by
  obtain ⟨_, _, rfl, h0, h⟩ := fitsL_cons h
  obtain ⟨_, _, rfl, h1, h⟩ := fitsL_cons h
  obtain ⟨_, _, rfl, h2, h⟩ := fitsL_cons h
  obtain ⟨_, _, rfl, h3, h⟩ := fitsL_cons h
  obtain ⟨_, _, rfl, h4, h⟩ := fitsL_cons h
  obtain rfl := fitsL_nil h
  obtain ⟨n0, rfl, k0⟩ := fits_int h0
  obtain ⟨n1, rfl, k1⟩ := fits_int h1
  obtain ⟨n2, rfl, k2⟩ := fits_int h2
  obtain ⟨ws, rfl, k3⟩ := fits_list (fun _ => want_of) h3
  obtain ⟨rs, rfl, k4⟩ := fits_list (fun _ => int1_of) h4
  exact ⟨⟨n0, n1, n2, ws, rs⟩, rfl, k0, k1, k2, k3, k4⟩

theorem arg_of_slice {H : Type} {enc : TypeId × Value → H} {P : Program} {num : Nat → Option FuncId} {W : World} {r : Reach} {b0 base : Nat} {spare : Nat → Bool} {held : Bool} {t : TypeId} {v : Value} {d : DataW H} {ps : List MemPlace} {e : TypeId} (ht : P.underlying t = some (.slice e)) {k : Nat} {row : List Sh} (hs : shOf P k t = some [.sl row]) (hval : Value.okWide P W r b0 t v) (hd : DataW.Trod enc P W base spare held t v d ps) :
    ∃ c, Fits (.sl row) c ∧ ArgRel num W v c := by
  obtain ⟨xs, h1, h2, h3⟩ := arg_slice (num := num) ht hs hval hd
  exact ⟨_, by simp only [Fits]; exact ⟨xs, rfl, h2, h3⟩, h1⟩

theorem arg_bool {H : Type} {enc : TypeId × Value → H} {P : Program} {num : Nat → Option FuncId} {W : World} {r : Reach} {b0 base : Nat} {spare : Nat → Bool} {held : Bool} {t : TypeId} {v : Value} {d : DataW H} {ps : List MemPlace} (ht : P.underlying t = some .bool) (hval : Value.okWide P W r b0 t v) (hd : DataW.Trod enc P W base spare held t v d ps) : ∃ b, ArgRel num W v (.bool b) := by
  obtain ⟨b, rfl⟩ := okWide_bool ht hval
  exact ⟨b, .bool b⟩

/-- What a law promises, to the program's own call. -/
theorem tied_lim {P' : Program} {num : Nat → Option FuncId} {fz : List (Nat × Obj)} {p : CProg} (t : Tied P' num fz p) {k : Nat} {f : FuncId} {args : List AV} {r : AV × List (Option AO)} (hn : num k = some f) (h : p.lim k args [] = some r) : Contract P' num fz f args [] r.1 r.2 := by
  obtain ⟨d, hd⟩ := lim_ev.1 h
  exact t.call d k f args [] r.1 r.2 hn (hd d (Nat.le_refl _))
end Go.Proofs.Ytgdjnflnfeakjaa

namespace Go.Proofs.Ytgdjnflnfeakjaa
open Go
set_option linter.unusedSimpArgs false
set_option maxRecDepth 100000

structure Code (bs : List Int) : Prop where
  len : bs.length ≤ 2000
  byte : ∀ b ∈ bs, 0 ≤ b ∧ b ≤ 255

/-- The reader's variable. -/
def rdBox (bs : List Int) (p : Int) : AO := .box [.sl .imm 1 (bs.map rowB), .int .i64 p]

noncomputable def pickV (bs : List Int) (p n : Int) : Int := match F 89 [.ptr 0 0 0, .int .i64 n] [rdBox bs p] with
  | some (.int .i64 r, _) => r
  | _ => 0

theorem xor_le {a b : Int} (h1 : 0 ≤ a) (h2 : a < 9223372036854775808) (h3 : 0 ≤ b) (h4 : b < 9223372036854775808) :
    ∃ r : Int, IntKind.i64.wrap (((a % 2 ^ IntKind.i64.bits).toNat ^^^ (b % 2 ^ IntKind.i64.bits).toNat : Nat) : Int) = r ∧ 0 ≤ r ∧ r < 9223372036854775808 := by
  obtain ⟨x, rfl⟩ : ∃ x : Nat, a = x := ⟨a.toNat, by omega⟩
  obtain ⟨y, rfl⟩ : ∃ y : Nat, b = y := ⟨b.toNat, by omega⟩
  have e1 : ((x : Int) % 2 ^ IntKind.i64.bits).toNat = x := by simp [IntKind.bits]; omega
  have e2 : ((y : Int) % 2 ^ IntKind.i64.bits).toNat = y := by simp [IntKind.bits]; omega
  have h := Nat.xor_lt_two_pow (x := x) (y := y) (n := 63) (by omega) (by omega)
  refine ⟨((x ^^^ y : Nat) : Int), ?_, by omega, by omega⟩
  rw [e1, e2]
  exact i64w (by omega) (by omega)

theorem tmod_in {x n : Int} (hx : 0 ≤ x) (hn : 1 ≤ n) : 0 ≤ x.tmod n ∧ x.tmod n < n := by
  rw [Int.tmod_eq_emod_of_nonneg hx]
  exact ⟨Int.emod_nonneg _ (by omega), Int.emod_lt_of_pos _ (by omega)⟩

theorem law89' (bs : List Int) (p n : Int) (hb : Code bs) (h0 : 0 ≤ p) (hp : p ≤ 1000000000000) (hn : n ≤ 1000000000) : ∃ r, F 89 [.ptr 0 0 0, .int .i64 n] [rdBox bs p] = some (.int .i64 r, [some (rdBox bs (p + 1))]) ∧ 0 ≤ r ∧ (1 ≤ n → r < n) := by
  have u1 : IntKind.i64.wrap (p + 1) = p + 1 := i64w (by omega) (by omega)
  have u2 : IntKind.i64.wrap p = p := i64w (by omega) (by omega)
  have hl := hb.len
  by_cases c1 : n < 1
  · refine ⟨0, F_run fn89 rfl ?_, by omega, by omega⟩
    simp [c89, rdBox, u1, c1]
  by_cases c2 : bs = []
  · subst c2
    refine ⟨0, F_run fn89 rfl ?_, by omega, by omega⟩
    simp [c89, rdBox, u1, c1]
  have hpos : 0 < bs.length := List.length_pos_iff.2 c2
  have c2' : ¬ ((bs.length : Int) = 0) := by omega
  have c1n : ¬ (n = 0) := by omega
  by_cases c3 : p < bs.length
  · obtain ⟨b, hbb⟩ : ∃ b, bs[p.toNat]? = some b := ⟨_, List.getElem?_eq_getElem (by omega)⟩
    obtain ⟨_, hg⟩ := List.getElem?_eq_some_iff.1 hbb
    have hr := hb.byte b (List.mem_of_getElem? hbb)
    have u3 : IntKind.i64.wrap b = b := i64w (by omega) (by omega)
    have ht := tmod_in (x := b) (n := n) (by omega) (by omega)
    have hlt : p.toNat < bs.length := by omega
    refine ⟨b.tmod n, F_run fn89 rfl ?_, ht.1, fun _ => ht.2⟩
    simp [c89, rdBox, u1, u2, c1, c2', c2, c3, c1n, hlt, hg, h0, u3]
  · obtain ⟨i1, hi1⟩ : ∃ i, i = p.tmod bs.length := ⟨_, rfl⟩
    obtain ⟨i2, hi2⟩ : ∃ i, i = (p * 7 + 3).tmod bs.length := ⟨_, rfl⟩
    have k1 := tmod_in (x := p) (n := bs.length) h0 (by omega)
    have k2 := tmod_in (x := p * 7 + 3) (n := bs.length) (by omega) (by omega)
    rw [← hi1] at k1
    rw [← hi2] at k2
    obtain ⟨b1, hb1⟩ : ∃ b, bs[i1.toNat]? = some b := ⟨_, List.getElem?_eq_getElem (by omega)⟩
    obtain ⟨b2, hb2⟩ : ∃ b, bs[i2.toNat]? = some b := ⟨_, List.getElem?_eq_getElem (by omega)⟩
    obtain ⟨_, hg1⟩ := List.getElem?_eq_some_iff.1 hb1
    obtain ⟨_, hg2⟩ := List.getElem?_eq_some_iff.1 hb2
    have r1 := hb.byte b1 (List.mem_of_getElem? hb1)
    have r2 := hb.byte b2 (List.mem_of_getElem? hb2)
    have l1 : i1.toNat < bs.length := by omega
    have l2 : i2.toNat < bs.length := by omega
    have v1 : IntKind.i64.wrap b1 = b1 := i64w (by omega) (by omega)
    have v2 : IntKind.i64.wrap b2 = b2 := i64w (by omega) (by omega)
    have v3 : IntKind.i64.wrap (b1 * 131) = b1 * 131 := i64w (by omega) (by omega)
    have v4 : IntKind.i64.wrap (p * 7) = p * 7 := i64w (by omega) (by omega)
    have v5 : IntKind.i64.wrap (p * 7 + 3) = p * 7 + 3 := i64w (by omega) (by omega)
    have v6 : IntKind.i64.wrap (b2 * 1117) = b2 * 1117 := i64w (by omega) (by omega)
    have v7 : IntKind.i64.wrap (b1 * 131 + b2 * 1117) = b1 * 131 + b2 * 1117 := i64w (by omega) (by omega)
    have v8 : IntKind.i64.wrap (p * 29) = p * 29 := i64w (by omega) (by omega)
    have v9 : IntKind.i64.wrap (b1 * 131 + b2 * 1117 + p * 29) = b1 * 131 + b2 * 1117 + p * 29 := i64w (by omega) (by omega)
    obtain ⟨q, hq⟩ : ∃ q, q = p.tdiv bs.length := ⟨_, rfl⟩
    have hq1 : 0 ≤ q ∧ q ≤ p := by
      rw [hq, Int.tdiv_eq_ediv_of_nonneg h0]
      exact ⟨Int.ediv_nonneg h0 (by omega), Int.ediv_le_self _ h0⟩
    have v10 : IntKind.i64.wrap q = q := i64w (by omega) (by omega)
    have v11 : IntKind.i64.wrap (q * 53) = q * 53 := i64w (by omega) (by omega)
    obtain ⟨x, hx⟩ : ∃ x, x = b1 * 131 + b2 * 1117 + p * 29 + q * 53 := ⟨_, rfl⟩
    have v12 : IntKind.i64.wrap x = x := i64w (by omega) (by omega)
    obtain ⟨y, hy⟩ : ∃ y, y = x.tdiv 64 := ⟨_, rfl⟩
    have hy1 : 0 ≤ y ∧ y ≤ x := by
      rw [hy, Int.tdiv_eq_ediv_of_nonneg (by omega)]
      exact ⟨Int.ediv_nonneg (by omega) (by omega), Int.ediv_le_self _ (by omega)⟩
    have v13 : IntKind.i64.wrap y = y := i64w (by omega) (by omega)
    obtain ⟨z, hz, hz1, hz2⟩ := xor_le (a := x) (b := y) (by omega) (by omega) (by omega) (by omega)
    have ht := tmod_in (x := z) (n := n) hz1 (by omega)
    refine ⟨z.tmod n, F_run fn89 rfl ?_, ht.1, fun _ => ht.2⟩
    simp [c89, rdBox, u1, u2, c1, c2', c2, c3, c1n, ← hi1, ← hi2, k1.1, k2.1, l1, l2, hg1, hg2, v1, v2, v3, v4, v5, v6, v7, v8, v9, ← hq, v10, v11, ← hx, v12, ← hy, v13, hz]

theorem law89 (bs : List Int) (p n : Int) (hb : Code bs) (h0 : 0 ≤ p) (hp : p ≤ 1000000000000) (hn : n ≤ 1000000000) : F 89 [.ptr 0 0 0, .int .i64 n] [rdBox bs p] = some (.int .i64 (pickV bs p n), [some (rdBox bs (p + 1))]) ∧ 0 ≤ pickV bs p n ∧ (1 ≤ n → pickV bs p n < n) := by
  obtain ⟨r, h1, h2⟩ := law89' bs p n hb h0 hp hn
  have : pickV bs p n = r := by unfold pickV; rw [h1]
  rw [this]
  exact ⟨h1, h2⟩

/-- The code that is read: its first 2000 bytes. -/
theorem law91 (bs : List Int) (hl : bs.length ≤ 1000000000) : F 91 [.sl .imm 1 (bs.map rowB)] [] = some (.cellp [.sl .imm 1 ((bs.take 2000).map rowB), .int .i64 0], []) := by
  refine F_run fn91 rfl ?_
  by_cases h : 2000 < bs.length
  · have h1 : (2000 : Int) < bs.length := by omega
    have h2 : (2000 : Int) ≤ bs.length := by omega
    simp [c91, h1, h2, slBounds]
  · have h1 : ¬ ((2000 : Int) < bs.length) := by omega
    have h2 : bs.take 2000 = bs := List.take_of_length_le (by omega)
    simp [c91, h1, h2]
end Go.Proofs.Ytgdjnflnfeakjaa

namespace Go.Proofs.Ytgdjnflnfeakjaa
open Go
set_option linter.unusedSimpArgs false
set_option maxRecDepth 100000

def inR (n lo hi : Int) : Bool := decide (lo ≤ n) && decide (n ≤ hi)

@[simp] theorem law85 (n lo hi : Int) : F 85 [.int .i64 n, .int .i64 lo, .int .i64 hi] [] = some (.bool (inR n lo hi), []) := by
  refine F_run fn85 rfl ?_
  simp [c85, inR]
  by_cases h : lo ≤ n <;> simp [h]

@[simp] theorem law102 (n lo hi : Int) : F 102 [.int .i64 n, .int .i64 lo, .int .i64 hi] [] = some (.bool (inR n lo hi), []) := by
  refine F_run fn102 rfl ?_
  simp [c102, inR]
  by_cases h : lo ≤ n <;> simp [h]

def nameByte (b : UInt8) : Bool := decide (33 ≤ (b.toNat : Int)) && decide ((b.toNat : Int) ≤ 126)
def isName (s : ByteArray) : Bool := decide (1 ≤ s.size) && decide (s.size ≤ 20) && s.data.toList.all nameByte

theorem size_toList (s : ByteArray) : s.data.toList.length = s.size := rfl

def head105 (s : ByteArray) (i : Nat) : St := hd [(0, .str s), (13, .int .i64 s.size), (14, .int .i64 i)] [] 0

@[simp] theorem law105 (s : ByteArray) : F 105 [.str s] [] = some (.bool (isName s), []) := by
  refine F_run fn105 rfl ?_
  simp [c105, isName]
  by_cases h1 : 1 ≤ s.size
  · by_cases h2 : s.size ≤ 20
    · have h3 : ¬ (20 < (s.size : Int)) := by omega
      have h4 : 1 ≤ (s.size : Int) := by omega
      simp [h1, h2, h3, h4]
      refine (loop_list s.data.toList (fun i (_ : Unit) => head105 s i) (fun _ _ => True) (fun _ r _ => (.bool (r.all nameByte), [])) (fun acc Y _ => ?_) (fun i a r acc Y ha hi hr _ hY => ?_) () ?_ trivial ?_).trans ?_
      · rw [size_toList]
        simp [head105, c105b0]
      · rw [size_toList] at hi
        have hw : IntKind.i64.wrap ((i : Int) + 1) = (i : Int) + 1 := i64w (by omega) (by omega)
        have ha' : s.data[i]? = some a := by simpa using ha
        obtain ⟨_, ha⟩ := Array.getElem?_eq_some_iff.1 ha'
        simp [head105, c105b0, ha, hi, nameByte]
        by_cases q1 : 33 ≤ (a.toNat : Int)
        · by_cases q2 : (a.toNat : Int) ≤ 126
          · have q3 : ¬ ((a.toNat : Int) < 33) := by omega
            have q4 : ¬ (126 < (a.toNat : Int)) := by omega
            simp [q1, q2, q3, q4]
            rw [hY () _ trivial]
            simp [head105, hw]
          · have q3 : ¬ ((a.toNat : Int) < 33) := by omega
            have q4 : 126 < (a.toNat : Int) := by omega
            simp [q1, q2, q3, q4]
        · have q3 : (a.toNat : Int) < 33 := by omega
          simp [q1, q3]
      · simp [head105]
      · rw [size_toList]; unfold big; omega
      · simp
    · have h3 : 20 < (s.size : Int) := by omega
      have h4 : 1 ≤ (s.size : Int) := by omega
      simp [h1, h2, h3, h4]
  · have h4 : ¬ (1 ≤ (s.size : Int)) := by omega
    simp [h1, h4]

def head101 (s : ByteArray) (i : Nat) : St := hd [(0, .str s), (3, .int .i64 i)] [] 0

@[simp] theorem law101 (s : ByteArray) : F 101 [.str s] [] = some (.bool (isName s), []) := by
  refine F_run fn101 rfl ?_
  simp [c101, isName, inR]
  by_cases h1 : 1 ≤ s.size
  · by_cases h2 : s.size ≤ 20
    · have h3 : ¬ (20 < (s.size : Int)) := by omega
      have h4 : ¬ ((s.size : Int) < 1) := by omega
      simp [h1, h2, h3, h4]
      refine (loop_list s.data.toList (fun i (_ : Unit) => head101 s i) (fun _ _ => True) (fun _ r _ => (.bool (r.all nameByte), [])) (fun acc Y _ => ?_) (fun i a r acc Y ha hi hr _ hY => ?_) () ?_ trivial ?_).trans ?_
      · rw [size_toList]
        simp [head101, c101b0]
      · rw [size_toList] at hi
        have hw : IntKind.i64.wrap ((i : Int) + 1) = (i : Int) + 1 := i64w (by omega) (by omega)
        have ha' : s.data[i]? = some a := by simpa using ha
        obtain ⟨_, ha⟩ := Array.getElem?_eq_some_iff.1 ha'
        simp [head101, c101b0, ha, hi, nameByte]
        by_cases q1 : 33 ≤ (a.toNat : Int)
        · by_cases q2 : (a.toNat : Int) ≤ 126
          · have q3 : ¬ ((a.toNat : Int) < 33) := by omega
            have q4 : ¬ (126 < (a.toNat : Int)) := by omega
            simp [q1, q2, q3, q4]
            rw [hY () _ trivial]
            simp [head101, hw]
          · have q3 : ¬ ((a.toNat : Int) < 33) := by omega
            have q4 : 126 < (a.toNat : Int) := by omega
            simp [q1, q2, q3, q4]
        · have q3 : (a.toNat : Int) < 33 := by omega
          simp [q1, q3]
      · simp [head101]
      · rw [size_toList]; unfold big; omega
      · simp
    · have h3 : 20 < (s.size : Int) := by omega
      simp [h1, h2, h3]
  · have h4 : (s.size : Int) < 1 := by omega
    simp [h1, h4]

def isHold (s : ByteArray) : Bool := isName s && !(sEq s ⟨#[42]⟩)

@[simp] theorem law106 (s : ByteArray) : F 106 [.str s] [] = some (.bool (isHold s), []) := by
  refine F_run fn106 rfl ?_
  simp [c106, isHold]
  cases isName s <;> simp

@[simp] theorem law100 (s : ByteArray) : F 100 [.str s] [] = some (.bool (isHold s), []) := by
  refine F_run fn100 rfl ?_
  simp [c100, isHold]
  cases isName s <;> simp

def wantOk (w : Want) : Bool := isName w.copy && inR w.version 1 1000000 && (sEq w.hold ⟨#[]⟩ || isHold w.hold) && inR w.pull 0 100 && inR w.start 0 100 && inR w.dies 0 100 && inR w.grace 0 100

@[simp] theorem law82 (s : T) (n : Int) (h : T) (n1 n2 n3 n4 : Int) : F 82 [.agg [.str s, .int .i64 n, .str h, .int .i64 n1, .int .i64 n2, .int .i64 n3, .int .i64 n4]] [] = some (.bool (wantOk ⟨s, n, h, n1, n2, n3, n4⟩), []) := by
  refine F_run fn82 rfl ?_
  simp [c82, wantOk]
  repeat' split
  all_goals simp_all

@[simp] theorem law81 (s : T) (n : Int) (h : T) (n1 n2 n3 n4 : Int) : F 81 [.agg [.str s, .int .i64 n, .str h, .int .i64 n1, .int .i64 n2, .int .i64 n3, .int .i64 n4]] [] = some (.bool (wantOk ⟨s, n, h, n1, n2, n3, n4⟩), []) := by
  refine F_run fn81 rfl ?_
  simp [c81, wantOk]
  repeat' split
  all_goals simp_all

/-! ### Wants -/
def ascW (pre : List Want) (w : Want) : Bool :=
  match pre.getLast? with
  | none => true
  | some p => sLt p.copy w.copy
def heldB (pre : List Want) (k : T) : Bool := pre.any fun p => sEq p.hold k
def freshW (pre : List Want) (w : Want) : Bool := sEq w.hold ⟨#[]⟩ || !heldB pre w.hold
def wantsGo (pre : List Want) : List Want → Bool
  | [] => true
  | w :: r => wantOk w && (ascW pre w && (freshW pre w && wantsGo (pre ++ [w]) r))
def wantsOk (ws : List Want) : Bool := decide (ws.length ≤ 10) && wantsGo [] ws

/-- The holds of the wants before. -/
def heldMap (pre : List Want) : ByteArray → Option AV := pre.foldl (fun m w => mapPut w.hold (.bool true) m) noKeys

@[simp] theorem heldMap_get (pre : List Want) (k : ByteArray) : (mapGet k (heldMap pre)).getD (.bool false) = .bool (heldB pre k) := by
  have h : ∀ (l : List Want) (m : ByteArray → Option AV) (b : Bool), (mapGet k m).getD (.bool false) = .bool b → (mapGet k (l.foldl (fun m w => mapPut w.hold (.bool true) m) m)).getD (.bool false) = .bool (b || l.any fun p => sEq p.hold k) := by
    intro l
    induction l with
    | nil => intro m b h; simpa using h
    | cons w l ih =>
      intro m b h
      rw [List.foldl_cons, ih _ (b || sEq w.hold k)]
      · simp [Bool.or_assoc]
      · rw [mapGet_put, sEq_comm w.hold k]
        by_cases h2 : sEq k w.hold = true
        · simp [h2]
        · simp [h2, h]
  have := h pre noKeys false rfl
  rw [Bool.false_or] at this
  exact this

@[simp] theorem heldB_nil (k : T) : heldB [] k = false := rfl
theorem heldB_snoc (pre : List Want) (w : Want) (k : T) : heldB (pre ++ [w]) k = (heldB pre k || sEq w.hold k) := by simp [heldB]
theorem heldMap_snoc (pre : List Want) (w : Want) : heldMap (pre ++ [w]) = mapPut w.hold (.bool true) (heldMap pre) := by simp [heldMap]

def head6 (m : Md) (ws : List Want) (i : Nat) : St := hd [(0, .sl m 7 (ws.map Want.c)), (3, .mapr 0), (7, .sl m 7 (ws.map Want.c)), (8, .int .i64 ws.length), (9, .int .i64 i)] [.map false (heldMap (ws.take i))] 0

theorem take_snoc {α : Type} {xs : List α} {j : Nat} {a : α} (h : xs[j]? = some a) : xs.take (j + 1) = xs.take j ++ [a] := by
  rw [List.take_add_one, h]; rfl

/-- The place before. -/
theorem prev {α : Type} {xs : List α} {i : Nat} (hi : i < xs.length) (hm : xs.length ≤ 9223372036854775807) (hp : i ≠ 0) : ∃ j : Nat, 0 < i ∧ IntKind.i64.wrap ((i : Int) - 1) = (j : Int) ∧ ∃ h : j < xs.length, (xs.take i).getLast? = some (xs[j]'h) := by
  obtain ⟨j, rfl⟩ : ∃ j, i = j + 1 := ⟨i - 1, by omega⟩
  refine ⟨j, by omega, ?_, by omega, ?_⟩
  · rw [i64w] <;> omega
  · rw [take_snoc (List.getElem?_eq_getElem (show j < xs.length by omega)), List.getLast?_concat]

theorem law6 (ws : List Want) (hl : ws.length < big) : F 6 [.sl .bor 7 (ws.map Want.c)] [] = some (.bool (wantsOk ws), []) := by
  refine F_run fn6 rfl ?_
  have hm : ws.length ≤ 9223372036854775807 := by unfold big at hl; omega
  simp [c6]
  refine (loop_list ws (fun i (_ : Unit) => head6 .bor ws i) (fun _ _ => True) (fun i r _ => (.bool (decide (ws.length ≤ 10) && wantsGo (ws.take i) r), [])) (fun acc Y _ => ?_) (fun i a r acc Y ha hi hr _ hY => ?_) () ?_ trivial ?_).trans ?_
  · simp [head6, c6b0, wantsGo]
    omega
  · have hw : IntKind.i64.wrap ((i : Int) + 1) = (i : Int) + 1 := i64w (by omega) (by omega)
    obtain ⟨_, hg⟩ := List.getElem?_eq_some_iff.1 ha
    have hs := take_snoc ha
    have hY' : ∀ s', s'.norm [0, 3, 7, 8, 9] = head6 .bor ws (i + 1) → fin [CRes.tmp 2] 0 (Y s') = some (.bool (decide (ws.length ≤ 10) && wantsGo (ws.take i ++ [a]) r), []) := fun s' h => by rw [← hs]; exact hY () s' trivial h
    have hh : heldMap (ws.take (i + 1)) = mapPut a.hold (.bool true) (heldMap (ws.take i)) := by rw [hs, heldMap_snoc]
    by_cases hz : i = 0
    · have hp : ¬ 0 < i := by omega
      have ht : ws.take i = [] := by rw [hz]; rfl
      simp [head6, c6b0, wantsGo, hg, hi, ascW, freshW, hp, ht]
      cases hq : wantOk a <;> cases hr2 : sEq a.hold ⟨#[]⟩ <;> simp [hq, hr2]
      all_goals
        rw [hY' _ (by simp [head6, hw, hh, ht])]
        simp [ht]
    · obtain ⟨j, hp, hw1, hj, hlast⟩ := prev hi hm hz
      simp [head6, c6b0, wantsGo, hg, hi, ascW, freshW, hp, hw1, hj, hlast]
      cases hq : wantOk a <;> cases hr2 : sEq a.hold ⟨#[]⟩ <;> cases hr3 : sLt ws[j].copy a.copy <;> simp [hq, hr2, hr3]
      · cases hr4 : heldB (ws.take i) a.hold
        · simp
          rw [hY' _ (by simp [head6, hw, hh])]
        · simp
      · rw [hY' _ (by simp [head6, hw, hh])]
  · simp [head6, heldMap]
  · exact hl
  · simp [wantsOk]
def head7 (ws : List Want) (i : Nat) : St := hd [(0, .sl .bor 7 (ws.map Want.c)), (3, .int .i64 i)] [] 0
def head7k (ws : List Want) (i k : Nat) : St := hd [(0, .sl .bor 7 (ws.map Want.c)), (3, .int .i64 i), (4, .int .i64 k)] [] 0

theorem law7 (ws : List Want) (hl : ws.length < big) : F 7 [.sl .bor 7 (ws.map Want.c)] [] = some (.bool (wantsOk ws), []) := by
  refine F_run fn7 rfl ?_
  have hm : ws.length ≤ 9223372036854775807 := by unfold big at hl; omega
  simp [c7, wantsOk]
  by_cases h10 : ws.length ≤ 10
  · have h10' : ¬ (10 < (ws.length : Int)) := by omega
    simp [h10, h10']
    refine (loop_list ws (fun i (_ : Unit) => head7 ws i) (fun _ _ => True) (fun i r _ => (.bool (wantsGo (ws.take i) r), [])) (fun acc Y _ => ?_) (fun i a r acc Y ha hi hr _ hY => ?_) () ?_ trivial ?_).trans ?_
    · simp [head7, c7b1, wantsGo]
    · have hw : IntKind.i64.wrap ((i : Int) + 1) = (i : Int) + 1 := i64w (by omega) (by omega)
      obtain ⟨_, hg⟩ := List.getElem?_eq_some_iff.1 ha
      have hs := take_snoc ha
      have hY' : ∀ s', s'.norm [0, 3] = head7 ws (i + 1) → fin [CRes.tmp 2] 0 (Y s') = some (.bool (wantsGo (ws.take i ++ [a]) r), []) := fun s' h => by rw [← hs]; exact hY () s' trivial h
      have inner : ∀ (fs : List Fr) (st : St), st.norm [0, 3, 4] = head7k ws i 0 → fin [CRes.tmp 2] 0 (X F (.code (.loop [0, 3, 4] c7b0) :: .blk 2 :: .blk 1 :: .code (.region [⟨some 12, .mov (.tmp 3), none⟩, ⟨some 13, .bin .add (.tmp 12) (.const (.int .i64 1)), none⟩, ⟨some 3, .mov (.tmp 13), none⟩] [0, 3]) :: .back Y :: fs) (.normal, st)) = some (.bool (freshW (ws.take i) a && wantsGo (ws.take i ++ [a]) r), []) := by
        intro fs st hst
        refine (loop_list (ws.take i) (fun k (_ : Unit) => head7k ws i k) (fun _ _ => True) (fun k t _ => (.bool ((sEq a.hold ⟨#[]⟩ || !heldB t a.hold) && wantsGo (ws.take i ++ [a]) r), [])) (fun acc Z _ => ?_) (fun k b t acc Z hb hk ht _ hZ => ?_) () hst trivial ?_).trans ?_
        · have hlen : (ws.take i).length = i := by simp; omega
          rw [hlen]
          simp [head7k, c7b0]
          exact hY' _ (by simp [head7, hw])
        · have hk2 : k < i := by simp at hk; omega
          have hwk : IntKind.i64.wrap ((k : Int) + 1) = (k : Int) + 1 := i64w (by omega) (by omega)
          have hb2 : ws[k]? = some b := by rw [List.getElem?_take, if_pos hk2] at hb; exact hb
          obtain ⟨hkl, hgb⟩ := List.getElem?_eq_some_iff.1 hb2
          simp [head7k, c7b0, hk2, hi, hg, hkl, hgb]
          cases hr2 : sEq a.hold ⟨#[]⟩ <;> cases hr3 : sEq b.hold a.hold <;> simp [hr2, hr3, heldB]
          all_goals
            rw [hZ () _ trivial (by simp [head7k, hwk])]
            simp [hr2, heldB]
        · simp; unfold big; omega
        · simp [freshW]
      by_cases hz : i = 0
      · have hp : ¬ 0 < i := by omega
        have ht : ws.take i = [] := by rw [hz]; rfl
        simp [head7, c7b1, wantsGo, hg, hi, ascW, hp, ht]
        cases hq : wantOk a <;> simp [hq]
        rw [inner _ _ (by simp [head7k])]
        simp [ht]
      · obtain ⟨j, hp, hw1, hj, hlast⟩ := prev hi hm hz
        simp [head7, c7b1, wantsGo, hg, hi, ascW, hp, hw1, hj, hlast]
        cases hq : wantOk a <;> cases hr3 : sLt ws[j].copy a.copy <;> simp [hq, hr3]
        rw [inner _ _ (by simp [head7k])]
    · simp [head7]
    · exact hl
    · simp
  · have h10' : 10 < (ws.length : Int) := by omega
    simp [h10, h10']
end Go.Proofs.Ytgdjnflnfeakjaa

namespace Go.Proofs.Ytgdjnflnfeakjaa
open Go
set_option linter.unusedSimpArgs false
set_option maxRecDepth 100000

def aliveS (n : Int) : Bool := n == 3 || n == 4 || n == 6
@[simp] theorem aliveS_2 : aliveS 2 = false := rfl
def alive (r : Run) : Bool := aliveS r.state

/-- Has it its hold for long enough, or none? -/
def leasedB (hold : T) (til clock : Int) : Bool := sEq hold ⟨#[]⟩ || decide (IntKind.i64.wrap (clock + 4) ≤ til)
def leased (r : Run) (clock : Int) : Bool := leasedB r.want.hold r.til clock

def runOk (r : Run) (clock : Int) : Bool :=
  wantOk r.want && (inR r.state 1 6 && (inR r.left 0 100 && (!(r.state == 2 && r.left != 0) && (inR r.falls 0 1000 && (inR r.til 0 1000016 && (!(sEq r.want.hold ⟨#[]⟩ && r.til != 0) && (!alive r || leased r clock)))))))

def ascR (pre : List Run) (r : Run) : Bool :=
  match pre.getLast? with
  | none => true
  | some p => sLt p.want.copy r.want.copy
def runsGo (clock : Int) (pre : List Run) : List Run → Bool
  | [] => true
  | r :: rs => runOk r clock && (ascR pre r && runsGo clock (pre ++ [r]) rs)
def runsOk (rs : List Run) (clock : Int) : Bool := decide (rs.length ≤ 20) && runsGo clock [] rs

def head12 (rs : List Run) (c : Int) (i : Nat) : St := hd [(0, .sl .bor 11 (rs.map Run.c)), (1, .int .i64 c), (5, .int .i64 i)] [] 0

def head11 (rs : List Run) (c : Int) (i : Nat) : St := hd [(0, .sl .bor 11 (rs.map Run.c)), (1, .int .i64 c), (10, .sl .bor 11 (rs.map Run.c)), (11, .int .i64 rs.length), (12, .int .i64 i)] [] 0

end Go.Proofs.Ytgdjnflnfeakjaa

namespace Go.Proofs.Ytgdjnflnfeakjaa
open Go
set_option linter.unusedSimpArgs false
set_option maxRecDepth 100000

/-- The place of a hold among asks, -1 if it is not there. -/
def askAtGo (h : T) : List Ask → Nat → Int
  | [], _ => -1
  | a :: r, i => if sEq a.hold h then i else askAtGo h r (i + 1)
def askAt (l : List Ask) (h : T) : Int := askAtGo h l 0

def head113 (l : List Ask) (h : T) (i : Nat) : St := hd [(1, .str h), (7, .sl .bor 4 (l.map Ask.c)), (8, .int .i64 l.length), (9, .int .i64 i)] [] 0

def head110 (l : List Ask) (h : T) (i : Nat) : St := hd [(0, .sl .bor 4 (l.map Ask.c)), (1, .str h), (5, .int .i64 i)] [] 0

def askOk (c : Int) (a : Ask) : Bool := isHold a.hold && (isName a.copy && (decide (0 ≤ a.first) && (decide (a.first ≤ a.at_) && decide (a.at_ ≤ c))))
def ascA (pre : List Ask) (a : Ask) : Bool :=
  match pre.getLast? with
  | none => true
  | some p => sLt p.hold a.hold
def asksGo (c : Int) (pre : List Ask) : List Ask → Bool
  | [] => true
  | a :: r => askOk c a && (ascA pre a && asksGo c (pre ++ [a]) r)
def asksOk (l : List Ask) (c : Int) : Bool := decide (l.length ≤ 40) && asksGo c [] l

def head114 (l : List Ask) (c : Int) (i : Nat) : St := hd [(0, .sl .bor 4 (l.map Ask.c)), (1, .int .i64 c), (7, .sl .bor 4 (l.map Ask.c)), (8, .int .i64 l.length), (9, .int .i64 i)] [] 0

def head111 (l : List Ask) (c : Int) (i : Nat) : St := hd [(0, .sl .bor 4 (l.map Ask.c)), (1, .int .i64 c), (5, .int .i64 i)] [] 0

structure Mate.small (m : Mate) : Prop where
  wants : m.wants.length ≤ 1048576
  runs : m.runs.length ≤ 1048576
  asks : m.asks.length ≤ 1048576
  gives : m.gives.length ≤ 1048576

/-- The parts of a mate, each alone. -/
def mateParts (m : Mate) : Bool :=
  isName m.name && (inR m.clock 0 1000000 && (inR m.seen 0 1000000 && (wantsOk m.wants && ((m.known || m.wants.isEmpty) && (runsOk m.runs m.clock && (asksOk m.asks m.clock && asksOk m.gives m.clock))))))
def apartGo (gives : List Ask) (l : List Ask) : Bool := l.all fun a => decide (askAt gives a.hold < 0)
def downRuns (l : List Run) : Bool := l.all fun r => alive r || !sEq r.want.hold ⟨#[]⟩
def mateDown (m : Mate) : Bool := !m.known && ((m.asks.isEmpty && m.gives.isEmpty) && (m.seen == 0 && downRuns m.runs))
def mateValid (m : Mate) : Bool := mateParts m && (apartGo m.gives m.asks && (m.up || mateDown m))

def head28a (m : Mate) (i : Nat) : St := hd [(1, .ptr 0 0 0), (65, .sl .bor 4 (m.asks.map Ask.c)), (66, .int .i64 m.asks.length), (67, .int .i64 i)] [.box (m.c .bor)] 0
def head28b (m : Mate) (i : Nat) : St := hd [(99, .sl .bor 11 (m.runs.map Run.c)), (100, .int .i64 m.runs.length), (101, .int .i64 i)] [] 0

def head29a (m : Mate) (i : Nat) : St := hd [(1, .ptr 0 0 0), (3, .int .i64 i)] [.box (m.c .bor)] 0
def head29b (m : Mate) (i : Nat) : St := hd [(1, .ptr 0 0 0), (4, .int .i64 i)] [.box (m.c .bor)] 0

end Go.Proofs.Ytgdjnflnfeakjaa

namespace Go.Proofs.Ytgdjnflnfeakjaa
open Go
set_option linter.unusedSimpArgs false
set_option maxRecDepth 100000

def grantOk (t : Int) (g : Grant) : Bool := isHold g.hold && (isName g.berth && (isName g.copy && (inR g.at_ 0 1000000 && inR g.til 0 (IntKind.i64.wrap (t + 32)))))
def ascG (pre : List Grant) (g : Grant) : Bool :=
  match pre.getLast? with
  | none => true
  | some p => sLt p.hold g.hold
def grantsGo (t : Int) (pre : List Grant) : List Grant → Bool
  | [] => true
  | g :: r => grantOk t g && (ascG pre g && grantsGo t (pre ++ [g]) r)
def ascP (pre : List Place) (p : Place) : Bool :=
  match pre.getLast? with
  | none => true
  | some q => sLt q.berth p.berth
def heldIn (pre : List Place) (k : T) : Bool := heldB (pre.flatMap Place.wants) k
def freshP (pre : List Place) (p : Place) : Bool := p.wants.all fun w => sEq w.hold ⟨#[]⟩ || !heldIn pre w.hold
def placeOk (p : Place) : Bool := isName p.berth && (inR p.seen 1 1000000 && wantsOk p.wants)
def placesGo (pre : List Place) : List Place → Bool
  | [] => true
  | p :: r => placeOk p && (ascP pre p && (freshP pre p && placesGo (pre ++ [p]) r))
def landOk (l : Land) : Bool :=
  inR l.time 0 2000000 && (decide (l.time.tmod 2 = 0) && (decide (l.grants.length ≤ 40) && (decide (l.places.length ≤ 4) && (grantsGo l.time [] l.grants && placesGo [] l.places))))

structure Place.small (p : Place) : Prop where
  wants : p.wants.length ≤ 1048576
structure Land.small (l : Land) : Prop where
  grants : l.grants.length ≤ 1048576
  places : l.places.length ≤ 1048576
  each : ∀ p ∈ l.places, p.small

/-- In wants that are ok no hold comes twice. -/
theorem wantsGo_fresh : ∀ (r pre : List Want), wantsGo pre r = true → ∀ j w, r[j]? = some w → freshW (pre ++ r.take j) w = true
  | [], _, _, j, w, h => by simp at h
  | a :: r, pre, hg, j, w, h => by
    simp only [wantsGo, Bool.and_eq_true] at hg
    cases j with
    | zero => simp at h; subst h; simpa using hg.2.2.1
    | succ j =>
      have := wantsGo_fresh r (pre ++ [a]) hg.2.2.2 j w (by simpa using h)
      simpa using this

theorem wantsOk_fresh {ws : List Want} (h : wantsOk ws = true) {j : Nat} {w : Want} (hw : ws[j]? = some w) (hne : sEq w.hold ⟨#[]⟩ = false) : heldB (ws.take j) w.hold = false := by
  unfold wantsOk at h
  rw [Bool.and_eq_true] at h
  have := wantsGo_fresh ws [] h.2 j w hw
  simp only [List.nil_append, freshW, hne, Bool.false_or, Bool.not_eq_true'] at this
  exact this

theorem heldB_append (a b : List Want) (k : T) : heldB (a ++ b) k = (heldB a k || heldB b k) := by simp [heldB]
theorem heldMap_append (a b : List Want) : heldMap (a ++ b) = b.foldl (fun m w => mapPut w.hold (.bool true) m) (heldMap a) := by simp [heldMap]

def head23g (l : Land) (m : Md) (i : Nat) : St := hd [(1, .ptr 0 0 0), (33, .sl .bor 5 (l.grants.map Grant.c)), (34, .int .i64 l.grants.length), (35, .int .i64 i)] [.box (l.c .bor m)] 0
def head23p (l : Land) (m : Md) (i : Nat) : St := hd [(1, .ptr 0 0 0), (5, .mapr 1), (90, .sl .bor 3 (l.places.map (Place.c m))), (91, .int .i64 l.places.length), (92, .int .i64 i)]
  [.box (l.c .bor m), .map false (heldMap ((l.places.take i).flatMap Place.wants))] 0
def head23w (l : Land) (m : Md) (i : Nat) (ws : List Want) (j : Nat) : St := hd [(1, .ptr 0 0 0), (5, .mapr 1), (90, .sl .bor 3 (l.places.map (Place.c m))), (91, .int .i64 l.places.length), (92, .int .i64 i), (130, .sl .bor 7 (ws.map Want.c)), (131, .int .i64 ws.length), (132, .int .i64 j)]
  [.box (l.c .bor m), .map false (heldMap ((l.places.take i).flatMap Place.wants ++ ws.take j))] 0

theorem law23 (l : Land) (m : Md) (hl : l.small) : F 23 [.agg (l.c .bor m)] [] = some (.bool (landOk l), []) := by
  refine F_run fn23 rfl ?_
  obtain ⟨s1, s2, s3⟩ := hl
  simp [c23, landOk]
  cases q1 : inR l.time 0 2000000 <;> simp
  by_cases q2 : l.time.tmod 2 = 0
  case neg => simp [q2]
  simp [q2]
  by_cases q3 : l.grants.length ≤ 40
  case neg =>
    have q3' : ¬ ((l.grants.length : Int) ≤ 40) := by omega
    have q32 : 40 < (l.grants.length : Int) := by omega
    simp [q3, q3', q32]
  have q3' : (l.grants.length : Int) ≤ 40 := by omega
  have q32 : ¬ (40 < (l.grants.length : Int)) := by omega
  simp [q3, q3', q32]
  by_cases q4 : l.places.length ≤ 4
  case neg =>
    have q4' : ¬ ((l.places.length : Int) ≤ 4) := by omega
    have q42 : 4 < (l.places.length : Int) := by omega
    simp [q4, q4', q42]
  have q4' : (l.places.length : Int) ≤ 4 := by omega
  have q42 : ¬ (4 < (l.places.length : Int)) := by omega
  simp [q4, q4', q42]
  refine (loop_list l.grants (fun i (_ : Unit) => head23g l m i) (fun _ _ => True) (fun i r _ => (.bool (grantsGo l.time (l.grants.take i) r && placesGo [] l.places), [])) (fun acc Y _ => ?_) (fun i a r acc Y ha hi hr _ hY => ?_) () ?_ trivial ?_).trans ?_
  · simp [head23g, c23b0, grantsGo]
    refine (loop_list l.places (fun i (_ : Unit) => head23p l m i) (fun _ _ => True) (fun i r _ => (.bool (placesGo (l.places.take i) r), [])) (fun acc Y _ => ?_) (fun i a r acc Y ha hi hr _ hY => ?_) () ?_ trivial ?_).trans ?_
    · simp [head23p, c23b2, placesGo]
    · have hw : IntKind.i64.wrap ((i : Int) + 1) = (i : Int) + 1 := i64w (by omega) (by omega)
      obtain ⟨_, hg⟩ := List.getElem?_eq_some_iff.1 ha
      have hs := take_snoc ha
      have hws := (s3 a (List.mem_of_getElem? ha)).wants
      have w6 := law6 a.wants (by unfold big; omega)
      have hY' : ∀ s', s'.norm [1, 5, 90, 91, 92] = head23p l m (i + 1) → fin [CRes.tmp 2] 0 (Y s') = some (.bool (placesGo (l.places.take i ++ [a]) r), []) := fun s' h => by rw [← hs]; exact hY () s' trivial h
      have hh : heldMap ((l.places.take (i + 1)).flatMap Place.wants) = heldMap ((l.places.take i).flatMap Place.wants ++ a.wants) := by rw [hs]; simp
      have inner : wantsOk a.wants = true → ∀ (fs : List Fr) (st : St), st.norm [1, 5, 90, 91, 92, 130, 131, 132] = head23w l m i a.wants 0 →
          fin [CRes.tmp 2] 0 (X F (.code (.loop [1, 5, 90, 91, 92, 130, 131, 132] c23b1) :: .blk 4 :: .blk 3 :: .code (.region [⟨some 149, .bin .add (.tmp 92) (.const (.int .i64 1)), none⟩, ⟨some 92, .mov (.tmp 149), none⟩] [1, 5, 90, 91, 92]) :: .back Y :: fs) (.normal, st)) = some (.bool (freshP (l.places.take i) a && placesGo (l.places.take i ++ [a]) r), []) := by
        intro hok fs st hst
        refine (loop_list a.wants (fun j (_ : Unit) => head23w l m i a.wants j) (fun _ _ => True) (fun _ t _ => (.bool ((t.all fun w => sEq w.hold ⟨#[]⟩ || !heldIn (l.places.take i) w.hold) && placesGo (l.places.take i ++ [a]) r), [])) (fun acc Z _ => ?_) (fun j b t acc Z hb hj ht _ hZ => ?_) () hst trivial ?_).trans rfl
        · simp [head23w, c23b1]
          exact hY' _ (by simp [head23p, hw, hh])
        · have hwj : IntKind.i64.wrap ((j : Int) + 1) = (j : Int) + 1 := i64w (by omega) (by omega)
          obtain ⟨_, hgb⟩ := List.getElem?_eq_some_iff.1 hb
          have hh2 : heldMap ((l.places.take i).flatMap Place.wants ++ a.wants.take (j + 1)) = mapPut b.hold (.bool true) (heldMap ((l.places.take i).flatMap Place.wants ++ a.wants.take j)) := by
            rw [take_snoc hb, ← List.append_assoc, heldMap_snoc]
          have hZ' : ∀ s', s'.norm [1, 5, 90, 91, 92, 130, 131, 132] = head23w l m i a.wants (j + 1) → fin [CRes.tmp 2] 0 (Z s') = some (.bool ((t.all fun w => sEq w.hold ⟨#[]⟩ || !heldIn (l.places.take i) w.hold) && placesGo (l.places.take i ++ [a]) r), []) := fun s' h => hZ () s' trivial h
          simp only [List.all_cons]
          simp [head23w, c23b1, hj, hgb]
          cases q5 : sEq b.hold ⟨#[]⟩ <;> simp
          · have hf := wantsOk_fresh hok hb q5
            have e1 : heldB ((l.places.take i).flatMap Place.wants ++ a.wants.take j) b.hold = heldIn (l.places.take i) b.hold := by rw [heldB_append, hf, Bool.or_false]; rfl
            rw [e1]
            cases q6 : heldIn (l.places.take i) b.hold <;> simp
            exact (hZ' _ (by simp [head23w, hwj, hh2])).trans (by simp)
          · exact (hZ' _ (by simp [head23w, hwj, hh2])).trans (by simp)
        · unfold big; omega
      by_cases hz : i = 0
      · have hp : ¬ 0 < i := by omega
        have ht : l.places.take i = [] := by rw [hz]; rfl
        simp [head23p, c23b2, placesGo, hg, hi, ascP, hp, ht, placeOk, w6]
        cases q7 : isName a.berth <;> simp
        cases q8 : inR a.seen 1 1000000 <;> simp
        cases q9 : wantsOk a.wants <;> simp
        exact (inner q9 _ _ (by simp [head23w, ht])).trans (by simp [ht])
      · obtain ⟨j, hp, hw1, hj, hlast⟩ := prev hi (by omega) hz
        simp [head23p, c23b2, placesGo, hg, hi, ascP, hp, hw1, hj, hlast, placeOk, w6]
        cases q7 : isName a.berth <;> simp
        cases q10 : sLt l.places[j].berth a.berth <;> simp
        cases q8 : inR a.seen 1 1000000 <;> simp
        cases q9 : wantsOk a.wants <;> simp
        exact (inner q9 _ _ (by simp [head23w])).trans (by simp)
    · simp [head23p, heldMap]
    · unfold big; omega
    · simp
  · have hw : IntKind.i64.wrap ((i : Int) + 1) = (i : Int) + 1 := i64w (by omega) (by omega)
    obtain ⟨_, hg⟩ := List.getElem?_eq_some_iff.1 ha
    have hs := take_snoc ha
    have hY' : ∀ s', s'.norm [1, 33, 34, 35] = head23g l m (i + 1) → fin [CRes.tmp 2] 0 (Y s') = some (.bool (grantsGo l.time (l.grants.take i ++ [a]) r && placesGo [] l.places), []) := fun s' h => by rw [← hs]; exact hY () s' trivial h
    by_cases hz : i = 0
    · have hp : ¬ 0 < i := by omega
      have ht : l.grants.take i = [] := by rw [hz]; rfl
      simp [head23g, c23b0, grantsGo, hg, hi, ascG, hp, ht, grantOk]
      cases r1 : isHold a.hold <;> simp
      cases r2 : isName a.berth <;> simp
      cases r3 : isName a.copy <;> simp
      cases r4 : inR a.at_ 0 1000000 <;> simp
      cases r5 : inR a.til 0 (IntKind.i64.wrap (l.time + 32)) <;> simp
      exact (hY' _ (by simp [head23g, hw])).trans (by simp [ht])
    · obtain ⟨j, hp, hw1, hj, hlast⟩ := prev hi (by omega) hz
      simp [head23g, c23b0, grantsGo, hg, hi, ascG, hp, hw1, hj, hlast, grantOk]
      cases r1 : isHold a.hold <;> simp
      cases r2 : isName a.berth <;> simp
      cases r3 : isName a.copy <;> simp
      cases r6 : sLt l.grants[j].hold a.hold <;> simp
      cases r4 : inR a.at_ 0 1000000 <;> simp
      cases r5 : inR a.til 0 (IntKind.i64.wrap (l.time + 32)) <;> simp
      exact (hY' _ (by simp [head23g, hw])).trans (by simp)
  · simp [head23g]
  · unfold big; omega
  · simp

def cw (w x : Want) : Bool := !sEq w.hold ⟨#[]⟩ && sEq w.hold x.hold
theorem freshP_any (pre : List Place) (p : Place) : (!(pre.any fun q => p.wants.any fun w => q.wants.any (cw w))) = freshP pre p := by
  rw [Bool.eq_iff_iff, Bool.not_eq_true', List.any_eq_false]
  unfold freshP
  rw [List.all_eq_true]
  constructor
  · intro h w hw
    cases h1 : sEq w.hold ⟨#[]⟩
    · simp only [Bool.false_or, Bool.not_eq_true', heldIn, heldB, List.any_eq_false, List.mem_flatMap]
      rintro x ⟨q, hq, hx⟩ h2
      apply h q hq
      rw [List.any_eq_true]
      refine ⟨w, hw, ?_⟩
      rw [List.any_eq_true]
      exact ⟨x, hx, by simp [cw, h1]; rw [sEq_comm]; exact h2⟩
    · rfl
  · intro h q hq h2
    obtain ⟨w, hw, h3⟩ := List.any_eq_true.1 h2
    obtain ⟨x, hx, h4⟩ := List.any_eq_true.1 h3
    simp only [cw, Bool.and_eq_true, Bool.not_eq_true'] at h4
    have h5 := h w hw
    rw [h4.1] at h5
    simp only [Bool.false_or, Bool.not_eq_true', heldIn, heldB, List.any_eq_false, List.mem_flatMap] at h5
    exact h5 x ⟨q, hq, hx⟩ (by rw [sEq_comm]; exact h4.2)

def head99 (ps : List Place) (m : Md) (i : Nat) : St := hd [(0, .sl .bor 3 (ps.map (Place.c m))), (3, .int .i64 i)] [] 0
def head99k (ps : List Place) (m : Md) (i : Nat) (p : Place) (k : Nat) : St := hd [(0, .sl .bor 3 (ps.map (Place.c m))), (3, .int .i64 i), (4, .ptr 0 0 0), (5, .int .i64 k)] [.box (p.c .bor)] 0
def head99j (ps : List Place) (m : Md) (i : Nat) (p : Place) (k j : Nat) : St := hd [(0, .sl .bor 3 (ps.map (Place.c m))), (3, .int .i64 i), (4, .ptr 0 0 0), (5, .int .i64 k), (6, .int .i64 j)] [.box (p.c .bor)] 0
def head99n (ps : List Place) (m : Md) (i : Nat) (p : Place) (k j n : Nat) : St := hd [(0, .sl .bor 3 (ps.map (Place.c m))), (3, .int .i64 i), (4, .ptr 0 0 0), (5, .int .i64 k), (6, .int .i64 j), (7, .int .i64 n)] [.box (p.c .bor)] 0

theorem law99 (ps : List Place) (m : Md) (hl : ps.length ≤ 1048576) (he : ∀ p ∈ ps, p.small) : F 99 [.sl .bor 3 (ps.map (Place.c m))] [] = some (.bool (decide (ps.length ≤ 4) && placesGo [] ps), []) := by
  refine F_run fn99 rfl ?_
  simp [c99]
  by_cases h4 : ps.length ≤ 4
  case neg =>
    have h4' : 4 < (ps.length : Int) := by omega
    simp [h4, h4']
  have h4' : ¬ (4 < (ps.length : Int)) := by omega
  simp [h4, h4']
  refine (loop_list ps (fun i (_ : Unit) => head99 ps m i) (fun _ _ => True) (fun i r _ => (.bool (placesGo (ps.take i) r), [])) (fun acc Y _ => ?_) (fun i a r acc Y ha hi hr _ hY => ?_) () ?_ trivial ?_).trans rfl
  · simp [head99, c99b3, placesGo]
  · have hw : IntKind.i64.wrap ((i : Int) + 1) = (i : Int) + 1 := i64w (by omega) (by omega)
    obtain ⟨_, hg⟩ := List.getElem?_eq_some_iff.1 ha
    have hs := take_snoc ha
    have hws := (he a (List.mem_of_getElem? ha)).wants
    have w7 := law7 a.wants (by unfold big; omega)
    have hY' : ∀ s', s'.norm [0, 3] = head99 ps m (i + 1) → fin [CRes.tmp 2] 0 (Y s') = some (.bool (placesGo (ps.take i ++ [a]) r), []) := fun s' h => by rw [← hs]; exact hY () s' trivial h
    have hcase : (¬ 0 < i ∧ (ps.take i).getLast? = none) ∨ ∃ j : Nat, 0 < i ∧ IntKind.i64.wrap ((i : Int) - 1) = (j : Int) ∧ ∃ h : j < ps.length, (ps.take i).getLast? = some (ps[j]'h) := by
      by_cases hz : i = 0
      · left; exact ⟨by omega, by rw [hz]; rfl⟩
      · right; exact prev hi (by omega) hz
    rcases hcase with ⟨hp, hlast⟩ | ⟨j, hp, hw1, hj, hlast⟩
    · simp [head99, c99b3, placesGo, hg, hi, ascP, hp, hlast, placeOk, w7]
      cases q7 : isName a.berth <;> simp
      cases q8 : inR a.seen 1 1000000 <;> simp
      cases q9 : wantsOk a.wants <;> simp
      rw [← freshP_any]
      refine (loop_list (ps.take i) (fun k (_ : Unit) => head99k ps m i a k) (fun _ _ => True) (fun _ t _ => (.bool (!(t.any fun q => a.wants.any fun w => q.wants.any (cw w)) && placesGo (ps.take i ++ [a]) r), [])) (fun acc Z _ => ?_) (fun k b t acc Z hb hk ht _ hZ => ?_) () ?_ trivial ?_).trans rfl
      · have hlen : (ps.take i).length = i := by simp; omega
        rw [hlen]
        simp [head99k, c99b2]
        exact hY' _ (by simp [head99, hw])
      · have hk2 : k < i := by simp at hk; omega
        have hwk : IntKind.i64.wrap ((k : Int) + 1) = (k : Int) + 1 := i64w (by omega) (by omega)
        have hb2 : ps[k]? = some b := by rw [List.getElem?_take, if_pos hk2] at hb; exact hb
        obtain ⟨hkl, hgb⟩ := List.getElem?_eq_some_iff.1 hb2
        have hbw := (he b (List.mem_of_getElem? hb2)).wants
        have hZ' : ∀ s', s'.norm [0, 3, 4, 5] = head99k ps m i a (k + 1) → fin [CRes.tmp 2] 0 (Z s') = some (.bool (!(t.any fun q => a.wants.any fun w => q.wants.any (cw w)) && placesGo (ps.take i ++ [a]) r), []) := fun s' h => hZ () s' trivial h
        simp only [List.any_cons, Bool.not_or]
        simp [head99k, c99b2, hk2]
        refine (loop_list a.wants (fun j (_ : Unit) => head99j ps m i a k j) (fun _ _ => True) (fun _ u _ => (.bool (!(u.any fun w => b.wants.any (cw w)) && (!(t.any fun q => a.wants.any fun w => q.wants.any (cw w)) && placesGo (ps.take i ++ [a]) r)), [])) (fun acc V _ => ?_) (fun jj w u acc V hv hjj hu _ hV => ?_) () ?_ trivial ?_).trans (by simp [Bool.and_assoc])
        · simp [head99j, c99b1]
          exact (hZ' _ (by simp [head99k, hwk])).trans (by simp)
        · have hwj : IntKind.i64.wrap ((jj : Int) + 1) = (jj : Int) + 1 := i64w (by omega) (by omega)
          obtain ⟨_, hgw⟩ := List.getElem?_eq_some_iff.1 hv
          have hV' : ∀ s', s'.norm [0, 3, 4, 5, 6] = head99j ps m i a k (jj + 1) → fin [CRes.tmp 2] 0 (V s') = some (.bool (!(u.any fun w => b.wants.any (cw w)) && (!(t.any fun q => a.wants.any fun w => q.wants.any (cw w)) && placesGo (ps.take i ++ [a]) r)), []) := fun s' h => hV () s' trivial h
          simp only [List.any_cons, Bool.not_or]
          simp [head99j, c99b1, hjj]
          refine (loop_list b.wants (fun n (_ : Unit) => head99n ps m i a k jj n) (fun _ _ => True) (fun _ x _ => (.bool (!(x.any (cw w)) && (!(u.any fun w => b.wants.any (cw w)) && (!(t.any fun q => a.wants.any fun w => q.wants.any (cw w)) && placesGo (ps.take i ++ [a]) r))), [])) (fun acc U _ => ?_) (fun n y x acc U hy hn hx _ hU => ?_) () ?_ trivial ?_).trans (by simp [Bool.and_assoc])
          · simp [head99n, c99b0, hkl, hgb]
            exact (hV' _ (by simp [head99j, hwj])).trans (by simp)
          · have hwn : IntKind.i64.wrap ((n : Int) + 1) = (n : Int) + 1 := i64w (by omega) (by omega)
            obtain ⟨_, hgy⟩ := List.getElem?_eq_some_iff.1 hy
            simp only [List.any_cons, Bool.not_or]
            simp [head99n, c99b0, hkl, hgb, hn, hgy, hjj, hgw, cw]
            cases e1 : sEq w.hold ⟨#[]⟩ <;> cases e2 : sEq w.hold y.hold <;> simp
            all_goals exact (hU () _ trivial (by simp [head99n, hwn])).trans (by simp [cw, e1])
          · simp [head99n]
          · unfold big; omega
        · simp [head99j]
        · unfold big; omega
      · simp [head99k]
      · simp; unfold big; omega
    · simp [head99, c99b3, placesGo, hg, hi, ascP, hp, hw1, hj, hlast, placeOk, w7]
      cases q7 : isName a.berth <;> simp
      cases q8 : inR a.seen 1 1000000 <;> simp
      cases q9 : wantsOk a.wants <;> simp
      cases q10 : sLt ps[j].berth a.berth <;> simp
      rw [← freshP_any]
      refine (loop_list (ps.take i) (fun k (_ : Unit) => head99k ps m i a k) (fun _ _ => True) (fun _ t _ => (.bool (!(t.any fun q => a.wants.any fun w => q.wants.any (cw w)) && placesGo (ps.take i ++ [a]) r), [])) (fun acc Z _ => ?_) (fun k b t acc Z hb hk ht _ hZ => ?_) () ?_ trivial ?_).trans rfl
      · have hlen : (ps.take i).length = i := by simp; omega
        rw [hlen]
        simp [head99k, c99b2]
        exact hY' _ (by simp [head99, hw])
      · have hk2 : k < i := by simp at hk; omega
        have hwk : IntKind.i64.wrap ((k : Int) + 1) = (k : Int) + 1 := i64w (by omega) (by omega)
        have hb2 : ps[k]? = some b := by rw [List.getElem?_take, if_pos hk2] at hb; exact hb
        obtain ⟨hkl, hgb⟩ := List.getElem?_eq_some_iff.1 hb2
        have hbw := (he b (List.mem_of_getElem? hb2)).wants
        have hZ' : ∀ s', s'.norm [0, 3, 4, 5] = head99k ps m i a (k + 1) → fin [CRes.tmp 2] 0 (Z s') = some (.bool (!(t.any fun q => a.wants.any fun w => q.wants.any (cw w)) && placesGo (ps.take i ++ [a]) r), []) := fun s' h => hZ () s' trivial h
        simp only [List.any_cons, Bool.not_or]
        simp [head99k, c99b2, hk2]
        refine (loop_list a.wants (fun j (_ : Unit) => head99j ps m i a k j) (fun _ _ => True) (fun _ u _ => (.bool (!(u.any fun w => b.wants.any (cw w)) && (!(t.any fun q => a.wants.any fun w => q.wants.any (cw w)) && placesGo (ps.take i ++ [a]) r)), [])) (fun acc V _ => ?_) (fun jj w u acc V hv hjj hu _ hV => ?_) () ?_ trivial ?_).trans (by simp [Bool.and_assoc])
        · simp [head99j, c99b1]
          exact (hZ' _ (by simp [head99k, hwk])).trans (by simp)
        · have hwj : IntKind.i64.wrap ((jj : Int) + 1) = (jj : Int) + 1 := i64w (by omega) (by omega)
          obtain ⟨_, hgw⟩ := List.getElem?_eq_some_iff.1 hv
          have hV' : ∀ s', s'.norm [0, 3, 4, 5, 6] = head99j ps m i a k (jj + 1) → fin [CRes.tmp 2] 0 (V s') = some (.bool (!(u.any fun w => b.wants.any (cw w)) && (!(t.any fun q => a.wants.any fun w => q.wants.any (cw w)) && placesGo (ps.take i ++ [a]) r)), []) := fun s' h => hV () s' trivial h
          simp only [List.any_cons, Bool.not_or]
          simp [head99j, c99b1, hjj]
          refine (loop_list b.wants (fun n (_ : Unit) => head99n ps m i a k jj n) (fun _ _ => True) (fun _ x _ => (.bool (!(x.any (cw w)) && (!(u.any fun w => b.wants.any (cw w)) && (!(t.any fun q => a.wants.any fun w => q.wants.any (cw w)) && placesGo (ps.take i ++ [a]) r))), [])) (fun acc U _ => ?_) (fun n y x acc U hy hn hx _ hU => ?_) () ?_ trivial ?_).trans (by simp [Bool.and_assoc])
          · simp [head99n, c99b0, hkl, hgb]
            exact (hV' _ (by simp [head99j, hwj])).trans (by simp)
          · have hwn : IntKind.i64.wrap ((n : Int) + 1) = (n : Int) + 1 := i64w (by omega) (by omega)
            obtain ⟨_, hgy⟩ := List.getElem?_eq_some_iff.1 hy
            simp only [List.any_cons, Bool.not_or]
            simp [head99n, c99b0, hkl, hgb, hn, hgy, hjj, hgw, cw]
            cases e1 : sEq w.hold ⟨#[]⟩ <;> cases e2 : sEq w.hold y.hold <;> simp
            all_goals exact (hU () _ trivial (by simp [head99n, hwn])).trans (by simp [cw, e1])
          · simp [head99n]
          · unfold big; omega
        · simp [head99j]
        · unfold big; omega
      · simp [head99k]
      · simp; unfold big; omega
  · simp [head99]
  · unfold big; omega

def head24 (l : Land) (m : Md) (i : Nat) : St := hd [(1, .ptr 0 0 0), (3, .int .i64 i)] [.box (l.c .bor m)] 0

theorem prevOr {α : Type} {xs : List α} {i : Nat} (hi : i < xs.length) (hm : xs.length ≤ 9223372036854775807) : (¬ 0 < i ∧ (xs.take i).getLast? = none) ∨ ∃ j : Nat, 0 < i ∧ IntKind.i64.wrap ((i : Int) - 1) = (j : Int) ∧ ∃ h : j < xs.length, (xs.take i).getLast? = some (xs[j]'h) := by
  by_cases hz : i = 0
  · left; exact ⟨by omega, by rw [hz]; rfl⟩
  · right; exact prev hi hm hz

theorem law24 (l : Land) (m : Md) (hl : l.small) : F 24 [.agg (l.c .bor m)] [] = some (.bool (landOk l), []) := by
  refine F_run fn24 rfl ?_
  obtain ⟨s1, s2, s3⟩ := hl
  have w99 := law99 l.places m s2 s3
  simp [c24, landOk]
  cases q1 : inR l.time 0 2000000 <;> simp
  by_cases q2 : l.time.tmod 2 = 0
  case neg => simp [q2]
  simp [q2]
  by_cases q3 : l.grants.length ≤ 40
  case neg =>
    have q3' : ¬ ((l.grants.length : Int) ≤ 40) := by omega
    have q32 : 40 < (l.grants.length : Int) := by omega
    simp [q3, q3', q32]
  have q3' : (l.grants.length : Int) ≤ 40 := by omega
  have q32 : ¬ (40 < (l.grants.length : Int)) := by omega
  simp [q3, q3', q32]
  refine (loop_list l.grants (fun i (_ : Unit) => head24 l m i) (fun _ _ => True) (fun i r _ => (.bool (grantsGo l.time (l.grants.take i) r && (decide (l.places.length ≤ 4) && placesGo [] l.places)), [])) (fun acc Y _ => ?_) (fun i a r acc Y ha hi hr _ hY => ?_) () ?_ trivial ?_).trans ?_
  · simp [head24, c24b0, grantsGo, w99]
  · have hw : IntKind.i64.wrap ((i : Int) + 1) = (i : Int) + 1 := i64w (by omega) (by omega)
    obtain ⟨_, hg⟩ := List.getElem?_eq_some_iff.1 ha
    have hs := take_snoc ha
    have hY' : ∀ s', s'.norm [1, 3] = head24 l m (i + 1) → fin [CRes.tmp 2] 0 (Y s') = some (.bool (grantsGo l.time (l.grants.take i ++ [a]) r && (decide (l.places.length ≤ 4) && placesGo [] l.places)), []) := fun s' h => by rw [← hs]; exact hY () s' trivial h
    rcases prevOr hi (by omega) with ⟨hp, hlast⟩ | ⟨j, hp, hw1, hj, hlast⟩
    · simp [head24, c24b0, grantsGo, hg, hi, ascG, hp, hlast, grantOk]
      cases r1 : isHold a.hold <;> simp
      cases r2 : isName a.berth <;> simp
      cases r3 : isName a.copy <;> simp
      cases r4 : inR a.at_ 0 1000000 <;> simp
      cases r5 : inR a.til 0 (IntKind.i64.wrap (l.time + 32)) <;> simp
      exact (hY' _ (by simp [head24, hw])).trans (by simp)
    · simp [head24, c24b0, grantsGo, hg, hi, ascG, hp, hw1, hj, hlast, grantOk]
      cases r1 : isHold a.hold <;> simp
      cases r2 : isName a.berth <;> simp
      cases r3 : isName a.copy <;> simp
      cases r4 : inR a.at_ 0 1000000 <;> simp
      cases r5 : inR a.til 0 (IntKind.i64.wrap (l.time + 32)) <;> simp
      cases r6 : sLt l.grants[j].hold a.hold <;> simp
      exact (hY' _ (by simp [head24, hw])).trans (by simp)
  · simp [head24]
  · unfold big; omega
  · simp
    cases grantsGo l.time [] l.grants <;> simp
end Go.Proofs.Ytgdjnflnfeakjaa

namespace Go.Proofs.Ytgdjnflnfeakjaa
open Go
set_option linter.unusedSimpArgs false
set_option maxRecDepth 100000

def ascM (pre : List Mate) (m : Mate) : Bool :=
  match pre.getLast? with
  | none => true
  | some p => sLt p.name m.name
def matesGo (pre : List Mate) : List Mate → Bool
  | [] => true
  | m :: r => mateValid m && (ascM pre m && matesGo (pre ++ [m]) r)
def worldOk (w : Wld) : Bool := landOk w.land && (decide (1 ≤ w.mates.length) && (decide (w.mates.length ≤ 4) && (decide (w.flight.length ≤ 300) && matesGo [] w.mates)))

structure Wld.small (w : Wld) : Prop where
  land : w.land.small
  mates : w.mates.length ≤ 1048576
  each : ∀ m ∈ w.mates, m.small
  flight : w.flight.length ≤ 1048576

def head57 (w : Wld) (mm : Md) (i : Nat) : St := hd [(1, .ptr 0 0 0), (28, .sl .bor 9 (w.mates.map (Mate.c mm))), (29, .int .i64 w.mates.length), (30, .int .i64 i)] [.box (w.c .bor mm)] 0

def head58 (w : Wld) (mm : Md) (i : Nat) : St := hd [(1, .ptr 0 0 0), (3, .int .i64 i)] [.box (w.c .bor mm)] 0

end Go.Proofs.Ytgdjnflnfeakjaa

namespace Go.Proofs.Ytgdjnflnfeakjaa
open Go
set_option linter.unusedSimpArgs false
set_option maxRecDepth 100000

/-- The machine's watchdog, on one run. -/
def wd (c : Int) (r : Run) : Run := if alive r && !leased r c then { r with state := 2, left := 0 } else r

/-- An array of the call's own that is filled from nothing: nil at first. -/
def ownV (sz : Nat) (xs : List (List AV)) : AV := match xs with
  | [] => .sl .own sz []
  | _ => .ref 0
def ownH (sz : Nat) (xs : List (List AV)) : List AO := match xs with
  | [] => []
  | xs => [.arr sz xs]
@[simp] theorem ownV_nil (sz : Nat) : ownV sz [] = .sl .own sz [] := rfl
@[simp] theorem ownH_nil (sz : Nat) : ownH sz [] = [] := rfl
@[simp] theorem ownV_cons (sz : Nat) (x : List AV) (xs : List (List AV)) : ownV sz (x :: xs) = .ref 0 := rfl
@[simp] theorem ownH_cons (sz : Nat) (x : List AV) (xs : List (List AV)) : ownH sz (x :: xs) = [.arr sz (x :: xs)] := rfl
@[simp] theorem ownV_snoc (sz : Nat) (x : List AV) (xs : List (List AV)) : ownV sz (xs ++ [x]) = .ref 0 := by cases xs <;> rfl
@[simp] theorem ownH_snoc (sz : Nat) (x : List AV) (xs : List (List AV)) : ownH sz (xs ++ [x]) = [.arr sz (xs ++ [x])] := by cases xs <;> rfl

def head18 (rs : List Run) (c : Int) (i : Nat) (acc : List Run) : St := hd [(1, .int .i64 c), (5, ownV 11 (acc.map Run.c)), (8, .sl .bor 11 (rs.map Run.c)), (9, .int .i64 rs.length), (10, .int .i64 i)] (ownH 11 (acc.map Run.c)) 0

def head20 (rs : List Run) (c : Int) (i : Nat) (acc : List Run) : St := hd [(0, .sl .bor 11 (rs.map Run.c)), (1, .int .i64 c), (5, .ref 0), (6, .int .i64 i)] [.arr 11 (acc.map Run.c)] 0

end Go.Proofs.Ytgdjnflnfeakjaa

namespace Go.Proofs.Ytgdjnflnfeakjaa
open Go
set_option linter.unusedSimpArgs false
set_option maxRecDepth 100000

@[simp] theorem plain_want (ws : List Want) : rowsPlain (ws.map Want.c) = true := by simp [rowsPlain]
@[simp] theorem plain_run (ws : List Run) : rowsPlain (ws.map Run.c) = true := by simp [rowsPlain]
@[simp] theorem plain_ask (ws : List Ask) : rowsPlain (ws.map Ask.c) = true := by simp [rowsPlain]
@[simp] theorem plain_grant (ws : List Grant) : rowsPlain (ws.map Grant.c) = true := by simp [rowsPlain]
@[simp] theorem plain_text (ws : List T) : rowsPlain (ws.map fun s => [.str s]) = true := by simp [rowsPlain]

def Mate.zero : Mate := ⟨⟨#[]⟩, false, 0, false, 0, [], [], [], []⟩

def mateRise (m : Mate) : Mate := if mateValid m then { m with up := m.up || decide (m.clock < 1000000) } else .zero

theorem valid_clock {m : Mate} (h : mateValid m = true) : 0 ≤ m.clock ∧ m.clock ≤ 1000000 := by
  unfold mateValid mateParts at h
  simp only [Bool.and_eq_true] at h
  have := h.1.2.1
  simpa [inR] using this

/-- What is left of a run behind a fall. -/
def fallRun (machine : Bool) (r : Run) : Option Run :=
  if alive r then (if machine then (if sEq r.want.hold ⟨#[]⟩ then none else some { r with state := 2, left := 0 }) else some r) else none
def mateFall (m : Mate) (machine : Bool) : Mate := if mateValid m then { Mate.zero with name := m.name, clock := m.clock, runs := m.runs.filterMap (fallRun machine) } else .zero

def ownVi (id sz : Nat) (xs : List (List AV)) : AV := match xs with
  | [] => .sl .own sz []
  | _ => .ref id
@[simp] theorem ownVi_nil (id sz : Nat) : ownVi id sz [] = .sl .own sz [] := rfl
@[simp] theorem ownVi_cons (id sz : Nat) (x : List AV) (xs : List (List AV)) : ownVi id sz (x :: xs) = .ref id := rfl
@[simp] theorem ownVi_snoc (id sz : Nat) (x : List AV) (xs : List (List AV)) : ownVi id sz (xs ++ [x]) = .ref id := by cases xs <;> rfl

def zeroCells : List AV := [.str ⟨#[]⟩, .bool false, .int .i64 0, .bool false, .int .i64 0, .sl .own 7 [], .sl .own 11 [], .sl .own 4 [], .sl .own 4 []]
def fallCells (m : Mate) (acc : List Run) : List AV := [.str m.name, .bool false, .int .i64 m.clock, .bool false, .int .i64 0, .sl .own 7 [], ownVi 2 11 (acc.map Run.c), .sl .own 4 [], .sl .own 4 []]

def head36 (m : Mate) (b : Bool) (i : Nat) (acc : List Run) : St := hd [(1, .bool b), (4, .ptr 0 0 0), (5, .ptr 1 0 0), (18, .sl .bor 11 (m.runs.map Run.c)), (19, .int .i64 m.runs.length), (20, .int .i64 i)] (.box zeroCells :: .box (fallCells m acc) :: ownH 11 (acc.map Run.c)) 0

def fallCells3 (m : Mate) (acc : List Run) : List AV := [.str m.name, .bool false, .int .i64 m.clock, .bool false, .int .i64 0, .sl .own 7 [], ownVi 3 11 (acc.map Run.c), .sl .own 4 [], .sl .own 4 []]
def head32 (m : Mate) (b : Bool) (i : Nat) (acc : List Run) : St := hd [(1, .bool b), (2, .ptr 0 0 0), (4, .ptr 1 0 0), (5, .ptr 2 0 0), (6, .int .i64 i)] (.box (m.c .bor) :: .box zeroCells :: .box (fallCells3 m acc) :: ownH 11 (acc.map Run.c)) 0

theorem filterMap_len {α β : Type} (f : α → Option β) : ∀ xs : List α, (xs.filterMap f).length ≤ xs.length := fun xs => List.length_filterMap_le f xs

end Go.Proofs.Ytgdjnflnfeakjaa

namespace Go.Proofs.Ytgdjnflnfeakjaa
open Go
set_option linter.unusedSimpArgs false
set_option maxRecDepth 100000

def eqWant (a b : Want) : Bool := sEq a.copy b.copy && (a.version == b.version && (sEq a.hold b.hold && (a.pull == b.pull && (a.start == b.start && (a.dies == b.dies && a.grace == b.grace)))))
theorem eqWant_iff (a b : Want) : eqWant a b = true ↔ a = b := by
  cases a; cases b
  simp [eqWant, sEq_iff]

@[simp] theorem eqCells_want (s1 : T) (n1 : Int) (h1 : T) (p1 q1 d1 g1 : Int) (s2 : T) (n2 : Int) (h2 : T) (p2 q2 d2 g2 : Int) :
    eqCells [.s, .i, .s, .i, .i, .i, .i] [.str s1, .int .i64 n1, .str h1, .int .i64 p1, .int .i64 q1, .int .i64 d1, .int .i64 g1] [.str s2, .int .i64 n2, .str h2, .int .i64 p2, .int .i64 q2, .int .i64 d2, .int .i64 g2] =
      some (eqWant ⟨s1, n1, h1, p1, q1, d1, g1⟩ ⟨s2, n2, h2, p2, q2, d2, g2⟩) := by
  simp only [eqCells, eqCell, eqWant, if_true, List.length_cons, List.length_nil, and_self]
  cases sEq s1 s2 <;> simp only [Bool.false_and, Bool.true_and]
  cases n1 == n2 <;> simp only [Bool.false_and, Bool.true_and]
  cases sEq h1 h2 <;> simp only [Bool.false_and, Bool.true_and]
  cases p1 == p2 <;> simp only [Bool.false_and, Bool.true_and]
  cases q1 == q2 <;> simp only [Bool.false_and, Bool.true_and]
  cases d1 == d2 <;> simp only [Bool.false_and, Bool.true_and]
  cases g1 == g2 <;> rfl

def sameGo : List Want → List Want → Bool
  | a :: as, b :: bs => eqWant a b && sameGo as bs
  | _, _ => true
def sameWants (a b : List Want) : Bool := decide (a.length = b.length) && sameGo a b

def head138 (a b : List Want) (i : Nat) : St := hd [(0, .sl .bor 7 (a.map Want.c)), (1, .sl .bor 7 (b.map Want.c)), (5, .int .i64 i)] [] 0

/-- What a berth is to run: of the last place of its name. -/
def wantsFor (name : T) (acc : List Want) : List Place → List Want
  | [] => acc
  | p :: r => wantsFor name (if sEq p.berth name then p.wants else acc) r
def runsAre : List Run → List Want → Bool
  | r :: rs, w :: ws => eqWant r.want w && (r.state == 4 && runsAre rs ws)
  | _, _ => true
def settledRuns (up : Bool) (rs : List Run) (ws : List Want) : Bool := up && (decide (rs.length = ws.length) && runsAre rs ws)
def settledMate (ps : List Place) (m : Mate) : Bool := settledRuns m.up m.runs (wantsFor m.name [] ps)
def settled (w : Wld) : Bool := worldOk w && w.mates.all (settledMate w.land.places)

def wantV (acc : Option (List Want)) : AV := match acc with
  | none => .sl .own 7 []
  | some ws => .sl .bor 7 (ws.map Want.c)

def head68m (w : Wld) (mm : Md) (i : Nat) : St := hd [(1, .ptr 0 0 0), (14, .sl .bor 9 (w.mates.map (Mate.c mm))), (15, .int .i64 w.mates.length), (16, .int .i64 i)] [.box (w.c .bor mm)] 0
def head68p (w : Wld) (mm : Md) (i : Nat) (m : Mate) (j : Nat) (acc : Option (List Want)) : St := hd [(1, .ptr 0 0 0), (4, .ptr 1 0 0), (5, wantV acc), (14, .sl .bor 9 (w.mates.map (Mate.c mm))), (15, .int .i64 w.mates.length), (16, .int .i64 i), (22, .sl .bor 3 (w.land.places.map (Place.c mm))), (23, .int .i64 w.land.places.length), (24, .int .i64 j)] [.box (w.c .bor mm), .box (m.c .bor)] 0
def head68r (w : Wld) (mm : Md) (i : Nat) (m : Mate) (ws : List Want) (j : Nat) : St := hd [(1, .ptr 0 0 0), (5, .sl .bor 7 (ws.map Want.c)), (14, .sl .bor 9 (w.mates.map (Mate.c mm))), (15, .int .i64 w.mates.length), (16, .int .i64 i), (48, .sl .bor 11 (m.runs.map Run.c)), (49, .int .i64 m.runs.length), (50, .int .i64 j)] [.box (w.c .bor mm)] 0
def head68e (w : Wld) (mm : Md) (i : Nat) : St := hd [(1, .ptr 0 0 0), (5, .sl .own 7 []), (14, .sl .bor 9 (w.mates.map (Mate.c mm))), (15, .int .i64 w.mates.length), (16, .int .i64 i), (48, .sl .bor 11 []), (49, .int .i64 0), (50, .int .i64 0)] [.box (w.c .bor mm)] 0

theorem runsAre_same : ∀ (rs : List Run) (ws : List Want), rs.length = ws.length → (rs.all (fun r => r.state == 4) && sameGo (rs.map Run.want) ws) = runsAre rs ws
  | [], [], _ => rfl
  | r :: rs, w :: ws, h => by
    have ih := runsAre_same rs ws (by simpa using h)
    simp only [List.all_cons, List.map_cons, sameGo, runsAre, ← ih]
    cases r.state == 4 <;> cases eqWant r.want w <;> cases rs.all (fun r => r.state == 4) <;> rfl
  | [], _ :: _, h => by simp at h
  | _ :: _, [], h => by simp at h

theorem settled_same (up : Bool) (rs : List Run) (ws : List Want) : (rs.all (fun r => r.state == 4) && (up && sameWants (rs.map Run.want) ws)) = settledRuns up rs ws := by
  unfold sameWants settledRuns
  rw [List.length_map]
  by_cases h : rs.length = ws.length
  · rw [← runsAre_same rs ws h]
    cases up <;> simp [h]
  · cases up <;> simp [h]

def head69m (w : Wld) (mm : Md) (i : Nat) : St := hd [(1, .ptr 0 0 0), (3, .int .i64 i)] [.box (w.c .bor mm)] 0
def wantV2 (acc : Option (List Want)) : AV := match acc with
  | none => .ref 2
  | some ws => .sl .bor 7 (ws.map Want.c)
def wantH2 (acc : Option (List Want)) : List AO := match acc with
  | none => [.arr 7 []]
  | some _ => []
def haveV (acc : Option (List Want)) : AV := match acc with
  | none => .ref 3
  | some _ => .ref 2
def head69p (w : Wld) (mm : Md) (i : Nat) (m : Mate) (j : Nat) (acc : Option (List Want)) : St := hd [(1, .ptr 0 0 0), (3, .int .i64 i), (4, .ptr 1 0 0), (5, wantV2 acc), (6, .int .i64 j)] (.box (w.c .bor mm) :: .box (m.c .bor) :: wantH2 acc) 0
def head69r (w : Wld) (mm : Md) (i : Nat) (m : Mate) (j : Nat) (acc : Option (List Want)) (hv : List Want) : St := hd [(1, .ptr 0 0 0), (3, .int .i64 i), (4, .ptr 1 0 0), (5, wantV2 acc), (7, haveV acc), (8, .int .i64 j)] (.box (w.c .bor mm) :: .box (m.c .bor) :: (wantH2 acc ++ [.arr 7 (hv.map Want.c)])) 0

end Go.Proofs.Ytgdjnflnfeakjaa

namespace Go.Proofs.Ytgdjnflnfeakjaa
open Go
set_option linter.unusedSimpArgs false
set_option maxRecDepth 100000

def Run.zero : Run := ⟨⟨⟨#[]⟩, 0, ⟨#[]⟩, 0, 0, 0, 0⟩, 0, 0, 0, 0⟩
def beginR (r : Run) (clock : Int) : Run := if leased r clock then { r with state := 3, left := r.want.start } else { r with state := 2, left := 0 }
def fallsUp (n : Int) : Int := if n < 1000 then n + 1 else n
def leftOf (f : Int) : Int := if 4 ≤ f then 16 else if f ≤ 0 then 1 else if f = 1 then 2 else if f = 2 then 4 else 8
def dies (r : Run) : Run := { r with falls := fallsUp r.falls, state := 5, left := leftOf (fallsUp r.falls) }
def mateLive (r : Run) (w : Want) (wanted : Bool) (clock : Int) : Option Run :=
  if (!wanted || !eqWant w r.want) && r.state != 6 then (if alive r then some { r with state := 6, left := r.want.grace } else none)
  else if r.state ≠ 2 ∧ 1 < r.left then some { r with left := r.left - 1 }
  else if r.state = 3 then some { r with state := 4, left := r.want.dies }
  else if r.state = 4 then (if r.left = 1 then some (dies r) else some r)
  else if r.state = 6 then none
  else if r.state = 1 ∨ r.state = 2 ∨ r.state = 5 then some (beginR r clock)
  else some r

def liveRes (r : Run) (w : Want) (wanted : Bool) (clock : Int) : AV := .tup [.agg ((mateLive r w wanted clock).getD .zero).c, .bool (mateLive r w wanted clock).isSome]

def head93 (r : Run) (f : Int) (i : Nat) : St := hd [(1, .ptr 0 0 0), (2, .ptr 1 0 0), (3, .int .i64 i)] [.box ({ r with state := 5, left := 2 ^ i, falls := f } : Run).c, .box Run.zero.c] 0

theorem leftOf_stop {f : Int} {i : Nat} (hi : i ≤ 4) (h1 : (i : Int) ≤ f ∨ i = 0) (h2 : ¬ ((i : Int) < f) ∨ i = 4) : (2 : Int) ^ i = leftOf f := by
  unfold leftOf
  rcases i with _ | _ | _ | _ | _ | i
  · have : f ≤ 0 := by omega
    rw [if_neg (by omega), if_pos this]; rfl
  · have : f = 1 := by omega
    subst this; rfl
  · have : f = 2 := by omega
    subst this; rfl
  · have : f = 3 := by omega
    subst this; rfl
  · rw [if_pos (by omega)]; rfl
  · omega

theorem shlLeft {f : Int} (h : f < 4) : IntKind.i64.wrap (2 ^ min (if f < 0 then (0 : Int) else f).toNat IntKind.i64.bits) = leftOf f := by
  unfold leftOf
  rw [if_neg (show ¬ 4 ≤ f by omega)]
  by_cases h0 : f ≤ 0
  · rw [if_pos (show f ≤ 0 from h0)]
    have : (if f < 0 then (0 : Int) else f) = 0 := by split <;> omega
    rw [this]; rfl
  rw [if_neg (show ¬ f ≤ 0 from h0), if_neg (show ¬ f < 0 by omega)]
  by_cases h1 : f = 1
  · subst h1; rfl
  by_cases h2 : f = 2
  · subst h2; rfl
  have h3 : f = 3 := by omega
  subst h3; rfl

end Go.Proofs.Ytgdjnflnfeakjaa

namespace Go.Proofs.Ytgdjnflnfeakjaa
open Go
set_option linter.unusedSimpArgs false
set_option maxRecDepth 100000

/-- One of some. -/
def selT (l : List T) (i : Int) : T := l.getD i.toNat ⟨#[]⟩
def selI (l : List Int) (i : Int) : Int := l.getD i.toNat 0

theorem toNat_cases {i : Int} {n : Nat} (h0 : 0 ≤ i) (h : i < n) : ∃ k : Nat, i = k ∧ k < n := ⟨i.toNat, by omega, by omega⟩

@[simp] theorem selT2 (a b : T) {i : Int} (h : i.toNat < [[AV.str a], [.str b]].length) : [[AV.str a], [.str b]][i.toNat]'h = [.str (selT [a, b] i)] := by
  unfold selT
  generalize i.toNat = k at h ⊢
  rcases k with _ | _ | k <;> first | rfl | (simp at h; omega)
@[simp] theorem selI2 (a b : Int) {i : Int} (h : i.toNat < [[AV.int .i64 a], [.int .i64 b]].length) : [[AV.int .i64 a], [.int .i64 b]][i.toNat]'h = [.int .i64 (selI [a, b] i)] := by
  unfold selI
  generalize i.toNat = k at h ⊢
  rcases k with _ | _ | k <;> first | rfl | (simp at h; omega)
@[simp] theorem selT3 (a b c : T) {i : Int} (h : i.toNat < [[AV.str a], [.str b], [.str c]].length) : [[AV.str a], [.str b], [.str c]][i.toNat]'h = [.str (selT [a, b, c] i)] := by
  unfold selT
  generalize i.toNat = k at h ⊢
  rcases k with _ | _ | _ | k <;> first | rfl | (simp at h; omega)
@[simp] theorem selI3 (a b c : Int) {i : Int} (h : i.toNat < [[AV.int .i64 a], [.int .i64 b], [.int .i64 c]].length) : [[AV.int .i64 a], [.int .i64 b], [.int .i64 c]][i.toNat]'h = [.int .i64 (selI [a, b, c] i)] := by
  unfold selI
  generalize i.toNat = k at h ⊢
  rcases k with _ | _ | _ | k <;> first | rfl | (simp at h; omega)
@[simp] theorem selT4 (a b c d : T) {i : Int} (h : i.toNat < [[AV.str a], [.str b], [.str c], [.str d]].length) : [[AV.str a], [.str b], [.str c], [.str d]][i.toNat]'h = [.str (selT [a, b, c, d] i)] := by
  unfold selT
  generalize i.toNat = k at h ⊢
  rcases k with _ | _ | _ | _ | k <;> first | rfl | (simp at h; omega)
@[simp] theorem selI4 (a b c d : Int) {i : Int} (h : i.toNat < [[AV.int .i64 a], [.int .i64 b], [.int .i64 c], [.int .i64 d]].length) : [[AV.int .i64 a], [.int .i64 b], [.int .i64 c], [.int .i64 d]][i.toNat]'h = [.int .i64 (selI [a, b, c, d] i)] := by
  unfold selI
  generalize i.toNat = k at h ⊢
  rcases k with _ | _ | _ | _ | k <;> first | rfl | (simp at h; omega)
@[simp] theorem selT5 (a b c d e : T) {i : Int} (h : i.toNat < [[AV.str a], [.str b], [.str c], [.str d], [.str e]].length) : [[AV.str a], [.str b], [.str c], [.str d], [.str e]][i.toNat]'h = [.str (selT [a, b, c, d, e] i)] := by
  unfold selT
  generalize i.toNat = k at h ⊢
  rcases k with _ | _ | _ | _ | _ | k <;> first | rfl | (simp at h; omega)
@[simp] theorem selI5 (a b c d e : Int) {i : Int} (h : i.toNat < [[AV.int .i64 a], [.int .i64 b], [.int .i64 c], [.int .i64 d], [.int .i64 e]].length) : [[AV.int .i64 a], [.int .i64 b], [.int .i64 c], [.int .i64 d], [.int .i64 e]][i.toNat]'h = [.int .i64 (selI [a, b, c, d, e] i)] := by
  unfold selI
  generalize i.toNat = k at h ⊢
  rcases k with _ | _ | _ | _ | _ | k <;> first | rfl | (simp at h; omega)
@[simp] theorem selT6 (a b c d e f : T) {i : Int} (h : i.toNat < [[AV.str a], [.str b], [.str c], [.str d], [.str e], [.str f]].length) : [[AV.str a], [.str b], [.str c], [.str d], [.str e], [.str f]][i.toNat]'h = [.str (selT [a, b, c, d, e, f] i)] := by
  unfold selT
  generalize i.toNat = k at h ⊢
  rcases k with _ | _ | _ | _ | _ | _ | k <;> first | rfl | (simp at h; omega)
@[simp] theorem selI6 (a b c d e f : Int) {i : Int} (h : i.toNat < [[AV.int .i64 a], [.int .i64 b], [.int .i64 c], [.int .i64 d], [.int .i64 e], [.int .i64 f]].length) : [[AV.int .i64 a], [.int .i64 b], [.int .i64 c], [.int .i64 d], [.int .i64 e], [.int .i64 f]][i.toNat]'h = [.int .i64 (selI [a, b, c, d, e, f] i)] := by
  unfold selI
  generalize i.toNat = k at h ⊢
  rcases k with _ | _ | _ | _ | _ | _ | k <;> first | rfl | (simp at h; omega)
@[simp] theorem selT7 (a b c d e f g : T) {i : Int} (h : i.toNat < [[AV.str a], [.str b], [.str c], [.str d], [.str e], [.str f], [.str g]].length) : [[AV.str a], [.str b], [.str c], [.str d], [.str e], [.str f], [.str g]][i.toNat]'h = [.str (selT [a, b, c, d, e, f, g] i)] := by
  unfold selT
  generalize i.toNat = k at h ⊢
  rcases k with _ | _ | _ | _ | _ | _ | _ | k <;> first | rfl | (simp at h; omega)
@[simp] theorem selI7 (a b c d e f g : Int) {i : Int} (h : i.toNat < [[AV.int .i64 a], [.int .i64 b], [.int .i64 c], [.int .i64 d], [.int .i64 e], [.int .i64 f], [.int .i64 g]].length) : [[AV.int .i64 a], [.int .i64 b], [.int .i64 c], [.int .i64 d], [.int .i64 e], [.int .i64 f], [.int .i64 g]][i.toNat]'h = [.int .i64 (selI [a, b, c, d, e, f, g] i)] := by
  unfold selI
  generalize i.toNat = k at h ⊢
  rcases k with _ | _ | _ | _ | _ | _ | _ | k <;> first | rfl | (simp at h; omega)
@[simp] theorem selT8 (a b c d e f g u : T) {i : Int} (h : i.toNat < [[AV.str a], [.str b], [.str c], [.str d], [.str e], [.str f], [.str g], [.str u]].length) : [[AV.str a], [.str b], [.str c], [.str d], [.str e], [.str f], [.str g], [.str u]][i.toNat]'h = [.str (selT [a, b, c, d, e, f, g, u] i)] := by
  unfold selT
  generalize i.toNat = k at h ⊢
  rcases k with _ | _ | _ | _ | _ | _ | _ | _ | k <;> first | rfl | (simp at h; omega)
@[simp] theorem selI8 (a b c d e f g u : Int) {i : Int} (h : i.toNat < [[AV.int .i64 a], [.int .i64 b], [.int .i64 c], [.int .i64 d], [.int .i64 e], [.int .i64 f], [.int .i64 g], [.int .i64 u]].length) : [[AV.int .i64 a], [.int .i64 b], [.int .i64 c], [.int .i64 d], [.int .i64 e], [.int .i64 f], [.int .i64 g], [.int .i64 u]][i.toNat]'h = [.int .i64 (selI [a, b, c, d, e, f, g, u] i)] := by
  unfold selI
  generalize i.toNat = k at h ⊢
  rcases k with _ | _ | _ | _ | _ | _ | _ | _ | k <;> first | rfl | (simp at h; omega)

noncomputable def drawWant (bs : List Int) (p : Int) (copy : T) : Want :=
  ⟨copy, 1 + pickV bs p 3, selT [⟨#[]⟩, ⟨#[118, 111, 108]⟩, ⟨#[105, 112]⟩, ⟨#[118, 111, 108, 50]⟩] (pickV bs (p + 1) 4), pickV bs (p + 2) 4, pickV bs (p + 3) 3, selI [0, 0, 0, 1, 3, 8] (pickV bs (p + 4) 6), pickV bs (p + 5) 4⟩

theorem law87 (bs : List Int) (p : Int) (copy : T) (hb : Code bs) (h0 : 0 ≤ p) (hp : p ≤ 100000000000) : F 87 [.ptr 0 0 0, .str copy] [rdBox bs p] = some (.agg (drawWant bs p copy).c, [some (rdBox bs (p + 6))]) := by
  refine F_run fn87 rfl ?_
  obtain ⟨a1, a2, a3⟩ := law89 bs p 3 hb h0 (by omega) (by omega)
  obtain ⟨b1, b2, b3⟩ := law89 bs (p + 1) 4 hb (by omega) (by omega) (by omega)
  obtain ⟨c1, c2, c3⟩ := law89 bs (p + 2) 4 hb (by omega) (by omega) (by omega)
  obtain ⟨d1, d2, d3⟩ := law89 bs (p + 3) 3 hb (by omega) (by omega) (by omega)
  obtain ⟨e1, e2, e3⟩ := law89 bs (p + 4) 6 hb (by omega) (by omega) (by omega)
  obtain ⟨f1, f2, f3⟩ := law89 bs (p + 5) 4 hb (by omega) (by omega) (by omega)
  rw [show p + 1 + 1 = p + 2 by omega] at b1
  rw [show p + 2 + 1 = p + 3 by omega] at c1
  rw [show p + 3 + 1 = p + 4 by omega] at d1
  rw [show p + 4 + 1 = p + 5 by omega] at e1
  rw [show p + 5 + 1 = p + 6 by omega] at f1
  have hu : IntKind.i64.wrap (1 + pickV bs p 3) = 1 + pickV bs p 3 := i64w (by omega) (by have := a3 (by omega); omega)
  have b4 := b3 (by omega)
  have e4 := e3 (by omega)
  simp only [rdBox] at a1 b1 c1 d1 e1 f1 ⊢
  simp [c87, a1, b1, c1, d1, e1, f1, b2, b4, e2, e4, hu, drawWant]

/-! ### Drawn values are of moderate size -/
def tame (n : Int) : Prop := -100000000 ≤ n ∧ n ≤ 100000000
structure Want.tame (w : Want) : Prop where
  copy : w.copy.size ≤ 1000
  version : Ytgdjnflnfeakjaa.tame w.version
  hold : w.hold.size ≤ 1000
  pull : Ytgdjnflnfeakjaa.tame w.pull
  start : Ytgdjnflnfeakjaa.tame w.start
  dies : Ytgdjnflnfeakjaa.tame w.dies
  grace : Ytgdjnflnfeakjaa.tame w.grace
structure Run.tame (r : Run) : Prop where
  want : r.want.tame
  state : Ytgdjnflnfeakjaa.tame r.state
  left : Ytgdjnflnfeakjaa.tame r.left
  falls : Ytgdjnflnfeakjaa.tame r.falls
  til : Ytgdjnflnfeakjaa.tame r.til

theorem selT_le {l : List T} {n : Nat} (h : ∀ x ∈ l, x.size ≤ n) (i : Int) : (selT l i).size ≤ n := by
  unfold selT
  rw [List.getD_eq_getElem?_getD]
  cases e : l[i.toNat]? with
  | none => exact Nat.zero_le _
  | some x => exact h x (List.mem_of_getElem? e)
theorem selI_tame {l : List Int} (h : ∀ x ∈ l, tame x) (i : Int) : tame (selI l i) := by
  unfold selI
  rw [List.getD_eq_getElem?_getD]
  cases e : l[i.toNat]? with
  | none => exact ⟨by simp, by simp⟩
  | some x => exact h x (List.mem_of_getElem? e)
theorem pick_tame {x n : Int} (h0 : 0 ≤ x) (h : x < n) (hn : n ≤ 100000000) : tame x := ⟨by omega, by omega⟩

theorem drawWant_tame {bs : List Int} {p : Int} {copy : T} (hb : Code bs) (h0 : 0 ≤ p) (hp : p ≤ 100000000000) (hc : copy.size ≤ 1000) : (drawWant bs p copy).tame := by
  obtain ⟨_, a2, a3⟩ := law89 bs p 3 hb h0 (by omega) (by omega)
  obtain ⟨_, c2, c3⟩ := law89 bs (p + 2) 4 hb (by omega) (by omega) (by omega)
  obtain ⟨_, d2, d3⟩ := law89 bs (p + 3) 3 hb (by omega) (by omega) (by omega)
  obtain ⟨_, f2, f3⟩ := law89 bs (p + 5) 4 hb (by omega) (by omega) (by omega)
  have a4 := a3 (by omega)
  have c4 := c3 (by omega)
  have d4 := d3 (by omega)
  have f4 := f3 (by omega)
  refine ⟨hc, ⟨by simp only [drawWant]; omega, by simp only [drawWant]; omega⟩, selT_le (by simp; decide) _, pick_tame c2 c4 (by omega), pick_tame d2 d4 (by omega), selI_tame (by simp [tame]) _, pick_tame f2 f4 (by omega)⟩

/-! ### A text many times -/
def headMany (s : T) (n : Int) (out : T) : St := hd [(0, .str s), (1, .int .i64 n), (5, .str out)] [] 0

def manyGo (n : Nat) (s out : T) : T := if _h : n = 0 then out else manyGo (n / 2) (s ++ s) (if n % 2 = 1 then out ++ s else out)
termination_by n
decreasing_by omega

theorem app_size (x y : T) : (x ++ y).size = x.size + y.size := ByteArray.size_append

theorem manyGo_size (n : Nat) (s out : T) : (manyGo n s out).size = out.size + s.size * n := by
  rw [manyGo]
  split
  · subst_vars; simp
  · rename_i h
    rw [manyGo_size (n / 2)]
    have e : n = 2 * (n / 2) + n % 2 := by omega
    have h2 : n % 2 < 2 := Nat.mod_lt _ (by omega)
    generalize n / 2 = q at *
    generalize n % 2 = r at *
    subst e
    rcases r with _ | _ | r
    · simp [app_size]
      rw [← Nat.mul_assoc, Nat.mul_two]
    · simp [app_size]
      rw [Nat.mul_add, ← Nat.mul_assoc, Nat.mul_two]
      omega
    · omega
termination_by n
decreasing_by omega

theorem law160 (s : T) (n : Nat) (hs : s.size ≤ 1000) (hn : n ≤ 1000000) : F 160 [.str s, .int .i64 n] [] = some (.str (manyGo n s ⟨#[]⟩), []) := by
  refine F_run fn160 rfl ?_
  simp [c160]
  refine (loop_by (σ := T × Nat × T) (fun x => headMany x.1 x.2.1 x.2.2) (fun x => x.2.1 ≤ 1000000 ∧ x.1.size * x.2.1 + x.2.2.size ≤ 1000000000) (fun x => x.2.1) (fun x => (.str (manyGo x.2.1 x.1 x.2.2), [])) (fun x Y hi hY => ?_) (s, n, ⟨#[]⟩) ?_ ⟨hn, ?_⟩ ?_).trans rfl
  · obtain ⟨s, n, out⟩ := x
    obtain ⟨h1, h2⟩ := hi
    simp only at h1 h2 hY ⊢
    rcases Nat.eq_zero_or_pos n with rfl | hp
    · have e : manyGo 0 s out = out := by rw [manyGo]; simp
      simp [headMany, c160b0, e]
    · have e : manyGo n s out = manyGo (n / 2) (s ++ s) (if n % 2 = 1 then out ++ s else out) := by rw [manyGo, dif_neg (by omega)]
      have hq : IntKind.i64.wrap ((n : Int) / 2) = ((n / 2 : Nat) : Int) := by rw [i64w (by omega) (by omega)]; omega
      have hsn : s.size ≤ s.size * n := Nat.le_mul_of_pos_right _ hp
      have g1 : s.size + s.size ≤ 9223372036854775807 := by omega
      have g2 : out.size + s.size ≤ 9223372036854775807 := by omega
      have hsz := manyGo_size n s out
      by_cases q : n % 2 = 1
      · have qi : ((n : Int).tmod 2 = 1) := by rw [Int.tmod_eq_emod_of_nonneg (by omega)]; omega
        have qi2 : ((n : Int) % 2 = 1) := by omega
        simp [headMany, c160b0, hp, e, q, qi, qi2, g1, g2]
        refine hY (s ++ s, n / 2, out ++ s) _ ⟨by simp only; omega, ?_⟩ (by simp only; omega) ?_
        · simp only [app_size]
          have e2 : n = 2 * (n / 2) + 1 := by omega
          generalize n / 2 = k at *
          subst e2
          have : s.size * (2 * k + 1) = (s.size + s.size) * k + s.size := by rw [Nat.mul_add, ← Nat.mul_assoc, Nat.mul_two, Nat.mul_one]
          omega
        · simp [headMany, hq]
      · have qi : ¬ ((n : Int).tmod 2 = 1) := by rw [Int.tmod_eq_emod_of_nonneg (by omega)]; omega
        have qi2 : ¬ ((n : Int) % 2 = 1) := by omega
        simp [headMany, c160b0, hp, e, q, qi, qi2, g1]
        refine hY (s ++ s, n / 2, out) _ ⟨by simp only; omega, ?_⟩ (by simp only; omega) ?_
        · simp only [app_size]
          have e2 : n = 2 * (n / 2) := by omega
          generalize n / 2 = k at *
          subst e2
          have : s.size * (2 * k) = (s.size + s.size) * k := by rw [← Nat.mul_assoc, Nat.mul_two]
          omega
        · simp [headMany, hq]
  · simp [headMany]
  · have : s.size * n ≤ 1000 * 1000000 := Nat.mul_le_mul hs hn
    show s.size * n + (⟨#[]⟩ : T).size ≤ 1000000000
    have h0 : (⟨#[]⟩ : T).size = 0 := rfl
    omega
  · unfold big; simp only; omega
theorem law144 (bs : List Int) (p : Int) (w : Want) (hb : Code bs) (h0 : 0 ≤ p) (hp : p ≤ 100000000000) (hw : w.tame) :
    ∃ w' p', F 144 [.ptr 0 0 0, .agg w.c] [rdBox bs p] = some (.agg w'.c, [some (rdBox bs p')]) ∧ p ≤ p' ∧ p' ≤ p + 3 ∧ Want.tame w' := by
  obtain ⟨a1, a2, a3⟩ := law89 bs p 7 hb h0 (by omega) (by omega)
  obtain ⟨b1, b2, b3⟩ := law89 bs (p + 1) 3 hb (by omega) (by omega) (by omega)
  rw [show p + 1 + 1 = p + 2 by omega] at b1
  have b4 := b3 (by omega)
  obtain ⟨hw1, hw2, hw3, hw4, hw5, hw6, hw7⟩ := hw
  simp only [rdBox] at a1 b1 ⊢
  by_cases k0 : pickV bs p 7 = 0
  · obtain ⟨c1, c2, c3⟩ := law89 bs (p + 1) 2 hb (by omega) (by omega) (by omega)
    obtain ⟨d1, d2, d3⟩ := law89 bs (p + 2) 3 hb (by omega) (by omega) (by omega)
    rw [show p + 1 + 1 = p + 2 by omega] at c1
    rw [show p + 2 + 1 = p + 3 by omega] at d1
    have c4 := c3 (by omega)
    have d4 := d3 (by omega)
    obtain ⟨n, hn, hn2⟩ := toNat_cases (i := 20 + pickV bs (p + 1) 2) (n := 100) (by omega) (by omega)
    have hu : IntKind.i64.wrap (20 + pickV bs (p + 1) 2) = n := by rw [i64w (by omega) (by omega)]; exact hn
    have e1 := law160 ⟨#[110]⟩ n (by decide) (by omega)
    have e2 := manyGo_size n ⟨#[110]⟩ ⟨#[]⟩
    have e3 : (manyGo n ⟨#[110]⟩ ⟨#[]⟩).size ≤ 1000 := by
      rw [e2]
      show 0 + 1 * n ≤ 1000
      omega
    refine ⟨{ w with copy := selT [⟨#[]⟩, ⟨#[120, 32, 121]⟩, manyGo n ⟨#[110]⟩ ⟨#[]⟩] (pickV bs (p + 2) 3) }, p + 3, F_run fn144 rfl ?_, by omega, by omega, ⟨selT_le ?_ _, hw2, hw3, hw4, hw5, hw6, hw7⟩⟩
    · simp only [rdBox] at c1 d1
      simp [c144, a1, k0, c1, d1, d2, d4, hu, e1]
    · intro x hx
      rcases List.mem_cons.1 hx with rfl | hx
      · decide
      rcases List.mem_cons.1 hx with rfl | hx
      · decide
      rw [List.mem_singleton.1 hx]
      exact e3
  by_cases k1 : pickV bs p 7 = 1
  · refine ⟨{ w with version := selI [0, 1000000, 1000001] (pickV bs (p + 1) 3) }, p + 2, F_run fn144 rfl ?_, by omega, by omega, ⟨hw1, selI_tame (by simp [tame]) _, hw3, hw4, hw5, hw6, hw7⟩⟩
    simp [c144, a1, k0, k1, b1, b2, b4]
  by_cases k2 : pickV bs p 7 = 2
  · refine ⟨{ w with hold := selT [⟨#[120, 32, 121]⟩, ⟨#[42]⟩, ⟨#[118, 111, 108]⟩] (pickV bs (p + 1) 3) }, p + 2, F_run fn144 rfl ?_, by omega, by omega, ⟨hw1, hw2, selT_le (by simp; decide) _, hw4, hw5, hw6, hw7⟩⟩
    simp [c144, a1, k0, k1, k2, b1, b2, b4]
  by_cases k3 : pickV bs p 7 = 3
  · refine ⟨{ w with pull := selI [-1, 100, 101] (pickV bs (p + 1) 3) }, p + 2, F_run fn144 rfl ?_, by omega, by omega, ⟨hw1, hw2, hw3, selI_tame (by simp [tame]) _, hw5, hw6, hw7⟩⟩
    simp [c144, a1, k0, k1, k2, k3, b1, b2, b4]
  by_cases k4 : pickV bs p 7 = 4
  · refine ⟨{ w with start := selI [-1, 100, 101] (pickV bs (p + 1) 3) }, p + 2, F_run fn144 rfl ?_, by omega, by omega, ⟨hw1, hw2, hw3, hw4, selI_tame (by simp [tame]) _, hw6, hw7⟩⟩
    simp [c144, a1, k0, k1, k2, k3, k4, b1, b2, b4]
  by_cases k5 : pickV bs p 7 = 5
  · refine ⟨{ w with dies := selI [-1, 100, 101] (pickV bs (p + 1) 3) }, p + 2, F_run fn144 rfl ?_, by omega, by omega, ⟨hw1, hw2, hw3, hw4, hw5, selI_tame (by simp [tame]) _, hw7⟩⟩
    simp [c144, a1, k0, k1, k2, k3, k4, k5, b1, b2, b4]
  · refine ⟨{ w with grace := selI [-1, 100, 101] (pickV bs (p + 1) 3) }, p + 2, F_run fn144 rfl ?_, by omega, by omega, ⟨hw1, hw2, hw3, hw4, hw5, hw6, selI_tame (by simp [tame]) _⟩⟩
    simp [c144, a1, k0, k1, k2, k3, k4, k5, b1, b2, b4]
theorem Code.take {bs : List Int} (h : ∀ b ∈ bs, 0 ≤ b ∧ b ≤ 255) : Code (bs.take 2000) := ⟨by rw [List.length_take]; omega, fun b hb => h b (List.mem_of_mem_take hb)⟩

def Want.zero : Want := ⟨⟨#[]⟩, 0, ⟨#[]⟩, 0, 0, 0, 0⟩
theorem Want.zero_tame : Want.zero.tame := ⟨Nat.zero_le _, ⟨by decide, by decide⟩, Nat.zero_le _, ⟨by decide, by decide⟩, ⟨by decide, by decide⟩, ⟨by decide, by decide⟩, ⟨by decide, by decide⟩⟩

end Go.Proofs.Ytgdjnflnfeakjaa

namespace Go.Proofs.Ytgdjnflnfeakjaa
open Go

def Ends {ρ : Type} (o : Option ρ) (Q : ρ → Prop) : Prop := ∃ r, o = some r ∧ Q r
@[simp] theorem Ends_some {ρ : Type} (r : ρ) (Q : ρ → Prop) : Ends (some r) Q ↔ Q r := by
  unfold Ends
  constructor
  · rintro ⟨s, h, k⟩; cases h; exact k
  · exact fun k => ⟨r, rfl, k⟩
theorem Ends.mono {ρ : Type} {o : Option ρ} {Q Q' : ρ → Prop} (h : Ends o Q) (k : ∀ r, Q r → Q' r) : Ends o Q' := by
  obtain ⟨r, h1, h2⟩ := h
  exact ⟨r, h1, k r h2⟩

theorem F_ends {k : Nat} {c : CFn} {args : List AV} {objs : List AO} {Q : AV × List (Option AO) → Prop} (hc : P.fn k = some c) (hl : Nat.ble args.length c.nt = true)
    (h : Ends (fin c.res objs.length (X F [.code c.body] (.normal, ⟨startSlots args 0, startHeap objs 0, 0, objs.length, objs.length⟩))) Q) : Ends (F k args objs) Q := by
  obtain ⟨r, h1, h2⟩ := h
  exact ⟨r, F_run hc hl h1, h2⟩

open Classical in
theorem loop_end {cl : Callee} {ρ σ : Type} {K : Option (AExit × St) → Option ρ} {keep : List Nat} {b : CCode} {fs : List Fr} {Q : ρ → Prop} (H : σ → St) (Inv : σ → Prop) (μ : σ → Nat)
    (step : ∀ x Y, Inv x → (∀ y s', Inv y → μ y < μ x → s'.norm keep = H y → Ends (K (Y s')) Q) → Ends (K (X cl (.code b :: .back Y :: fs) (.normal, H x))) Q)
    (x : σ) {s : St} (hs : s.norm keep = H x) (hi : Inv x) (hm : μ x < big) : Ends (K (X cl (.code (.loop keep b) :: fs) (.normal, s))) Q := by
  have h := loop_by (cl := cl) (K := fun o => if Ends (K o) Q then some () else none) (keep := keep) (b := b) (fs := fs) H Inv μ (fun _ => ()) (fun x Y hx hY => by
    have := step x Y hx (fun y s' h1 h2 h3 => by
      have h4 := hY y s' h1 h2 h3
      split at h4
      · assumption
      · cases h4)
    exact if_pos this) x hs hi hm
  split at h
  · assumption
  · cases h
end Go.Proofs.Ytgdjnflnfeakjaa

namespace Go.Proofs.Ytgdjnflnfeakjaa
open Go
set_option linter.unusedSimpArgs false
set_option maxRecDepth 100000

def digit (d : Nat) : T := ⟨#[48 + UInt8.ofNat d]⟩
def dec (n : Nat) : T := if _h : n < 10 then digit n else dec (n / 10) ++ digit (n % 10)
termination_by n
decreasing_by omega

theorem u8w {d : Nat} (h : d < 10) : IntKind.u8.wrap (IntKind.i64.wrap (48 + (d : Int))) = 48 + (d : Int) := by
  rw [i64w (by omega) (by omega)]
  simp [IntKind.wrap, IntKind.signed, IntKind.bits]
  omega

theorem dec_size : ∀ (j n : Nat), n < 10 ^ (j + 1) → (dec n).size ≤ j + 1
  | 0, n, h => by
    rw [dec, dif_pos (by omega)]
    exact Nat.le_refl _
  | j + 1, n, h => by
    rw [dec]
    split
    · show 1 ≤ _; omega
    · rw [app_size]
      have := dec_size j (n / 10) (Nat.div_lt_of_lt_mul (by rw [Nat.pow_succ] at h; omega))
      have e : (digit (n % 10)).size = 1 := rfl
      omega

theorem law140 (n : Nat) (hn : n < 1000000000000000000) : F 140 [.int .i64 n] [] = some (.str (dec n), []) := by
  induction n using Nat.strongRecOn with
  | ind n ih =>
    refine F_run fn140 rfl ?_
    rw [dec]
    by_cases h : n < 10
    · have hI : (n : Int) < 10 := by omega
      have hu := u8w h
      have ht : (48 + (n : Int)).toNat = 48 + n := by omega
      simp [c140, h, hI, toBytes, hu, digit, ht]
    · have hI : ¬ (n : Int) < 10 := by omega
      have w := ih (n / 10) (by omega) (by omega)
      have hs := dec_size 18 (n / 10) (by omega)
      have hd := Nat.mod_lt n (show 0 < 10 by omega)
      obtain ⟨q, hq⟩ : ∃ q, q = n / 10 := ⟨_, rfl⟩
      obtain ⟨d, hdd⟩ : ∃ d, d = n % 10 := ⟨_, rfl⟩
      have hm : Int.tmod (n : Int) 10 = (d : Int) := by rw [Int.tmod_eq_emod_of_nonneg (by omega)]; omega
      have hm2 : (n : Int) % 10 = (d : Int) := by omega
      have hq2 : (n : Int) / 10 = (q : Int) := by omega
      have hq3 : IntKind.i64.wrap (q : Int) = (q : Int) := i64w (by omega) (by omega)
      rw [← hq] at w hs ⊢
      rw [← hdd] at hd ⊢
      have hu := u8w hd
      have ht : (48 + (d : Int)).toNat = 48 + d := by omega
      have hs2 : (dec q).size + (⟨#[48 + UInt8.ofNat d]⟩ : T).size ≤ 9223372036854775807 := by
        have : (⟨#[48 + UInt8.ofNat d]⟩ : T).size = 1 := rfl
        omega
      simp [c140, h, hI, toBytes, hm, hm2, hq2, hq3, hu, digit, ht, w, hs2]

/-- The name of the i-th copy. -/
theorem cName_size {i : Nat} (h : i < 1000) : ((⟨#[99]⟩ : T) ++ dec i).size ≤ 1000 := by
  rw [app_size]
  have := dec_size 3 i (by omega)
  have e : (⟨#[99]⟩ : T).size = 1 := rfl
  omega

/-! ### Lists of wants and of runs -/
def head145 (bs : List Int) (p : Int) (ws : List Want) (i : Nat) : St := hd [(0, .ptr 0 0 0), (3, .ref 1), (4, .int .i64 i)] [rdBox bs p, .arr 7 (ws.map Want.c)] 1

def Drew (bs : List Int) (p n : Int) (v : AV → Prop) (r : AV × List (Option AO)) : Prop := ∃ x p', r = (x, [some (rdBox bs p')]) ∧ p ≤ p' ∧ p' ≤ p + n ∧ v x

theorem law145 (bs : List Int) (p : Int) (hb : Code bs) (h0 : 0 ≤ p) (hp : p ≤ 1000000000) :
    Ends (F 145 [.ptr 0 0 0] [rdBox bs p]) (Drew bs p 28 fun x => ∃ ws : List Want, x = .sl .own 7 (ws.map Want.c) ∧ ws.length ≤ 4 ∧ ∀ w ∈ ws, Want.tame w) := by
  refine F_ends fn145 rfl ?_
  simp [c145]
  refine loop_end (σ := Nat × Int × List Want) (fun z => head145 bs z.2.1 z.2.2 z.1) (fun z => z.1 ≤ 4 ∧ p ≤ z.2.1 ∧ z.2.1 ≤ p + 7 * z.1 ∧ z.2.2.length ≤ z.1 ∧ ∀ w ∈ z.2.2, Want.tame w) (fun z => 4 - z.1) (fun z Y hinv hY => ?_) (0, p, []) ?_ ⟨by omega, by simp, by simp, by simp, by simp⟩ (by unfold big; simp)
  · obtain ⟨i, q, ws⟩ := z
    obtain ⟨h1, h2, h3, h4, h5⟩ := hinv
    simp only at h1 h2 h3 h4 h5 hY ⊢
    by_cases hi : i < 4
    · have hiI : (i : Int) < 4 := by omega
      have hw : IntKind.i64.wrap ((i : Int) + 1) = (i : Int) + 1 := i64w (by omega) (by omega)
      obtain ⟨a1, a2, a3⟩ := law89 bs q 2 hb (by omega) (by omega) (by omega)
      have d1 := law140 i (by omega)
      have d2 := cName_size (i := i) (by omega)
      have d3 : (⟨#[99]⟩ : T).size + (dec i).size ≤ 9223372036854775807 := by rw [app_size] at d2; omega
      have b1 := law87 bs (q + 1) (⟨#[99]⟩ ++ dec i) hb (by omega) (by omega)
      rw [show q + 1 + 6 = q + 7 by omega] at b1
      have b2 := drawWant_tame (p := q + 1) (copy := ⟨#[99]⟩ ++ dec i) hb (by omega) (by omega) d2
      generalize drawWant bs (q + 1) (⟨#[99]⟩ ++ dec i) = w at b1 b2
      have c1 := law7 (ws ++ [w]) (by unfold big; simp; omega)
      have e1 : ws.length * 72 ≤ 140737488355328 := by omega
      have e2 : ws.length ≤ 140737488355328 := by omega
      have e3 : (ws.length + 1) * 72 ≤ 140737488355328 := by omega
      have e4 : ws.length + 1 ≤ 140737488355328 := by omega
      simp only [rdBox, Want.c] at a1 b1
      simp at c1
      by_cases k0 : pickV bs q 2 = 0
      · cases k1 : wantsOk (ws ++ [w])
        · rw [k1] at c1
          simp [head145, rdBox, c145b0, hiI, a1, k0, d1, d3, b1, takeRows, rowsPlain, e1, e2, e3, e4, c1]
          refine hY (i + 1, q + 7, ws) _ ⟨by omega, by simp only; omega, by simp only; omega, by simp only; omega, h5⟩ (by simp only; omega) ?_
          simp [head145, rdBox, hw]
        · rw [k1] at c1
          simp [head145, rdBox, c145b0, hiI, a1, k0, d1, d3, b1, takeRows, rowsPlain, e1, e2, e3, e4, c1]
          refine hY (i + 1, q + 7, ws ++ [w]) _ ⟨by omega, by simp only; omega, by simp only; omega, by simp; omega, ?_⟩ (by simp only; omega) ?_
          · intro x hx
            rcases List.mem_append.1 hx with hx | hx
            · exact h5 x hx
            · rw [List.mem_singleton.1 hx]; exact b2
          · simp [head145, rdBox, hw]
      · simp [head145, rdBox, c145b0, hiI, a1, k0]
        refine hY (i + 1, q + 1, ws) _ ⟨by omega, by simp only; omega, by simp only; omega, by simp only; omega, h5⟩ (by simp only; omega) ?_
        simp [head145, rdBox, hw]
    · have hiI : ¬ (i : Int) < 4 := by omega
      simp [head145, rdBox, c145b0, hiI]
      exact ⟨_, q, rfl, by omega, by omega, ws, rfl, by omega, h5⟩
  · simp [head145, rdBox]
def head162 (bs : List Int) (p clock : Int) (ok : Bool) (rs : List Run) (i : Nat) : St := hd [(0, .ptr 0 0 0), (1, .int .i64 clock), (2, .bool ok), (7, .ref 1), (8, .int .i64 i)] [rdBox bs p, .arr 11 (rs.map Run.c)] 1

end Go.Proofs.Ytgdjnflnfeakjaa

namespace Go.Proofs.Ytgdjnflnfeakjaa
open Go
set_option linter.unusedSimpArgs false
set_option maxRecDepth 100000

def findW (l : List Want) (n : T) : Option Want := l.find? fun w => sEq w.copy n

def head161 (ws : List Want) (n : T) (i : Nat) : St := hd [(0, .sl .bor 7 (ws.map Want.c)), (1, .str n), (4, .ptr 0 0 0), (6, .int .i64 i)] [.box Want.zero.c] 0

theorem findW_tame {l : List Want} (h : ∀ w ∈ l, w.tame) (n : T) : ((findW l n).getD .zero).tame := by
  cases e : findW l n with
  | none => exact Want.zero_tame
  | some w => exact h w (List.mem_of_find?_eq_some e)

structure Ask.tame (a : Ask) : Prop where
  hold : a.hold.size ≤ 1000
  copy : a.copy.size ≤ 1000
  first : Ytgdjnflnfeakjaa.tame a.first
  at_ : Ytgdjnflnfeakjaa.tame a.at_
structure Mate.tameN (k : Nat) (m : Mate) : Prop where
  name : m.name.size ≤ 1000
  clock : Ytgdjnflnfeakjaa.tame m.clock
  seen : Ytgdjnflnfeakjaa.tame m.seen
  nwants : m.wants.length ≤ k
  wants : ∀ w ∈ m.wants, w.tame
  nruns : m.runs.length ≤ k
  runs : ∀ r ∈ m.runs, r.tame
  nasks : m.asks.length ≤ k
  asks : ∀ a ∈ m.asks, a.tame
  ngives : m.gives.length ≤ k
  gives : ∀ a ∈ m.gives, a.tame
abbrev Mate.tame (m : Mate) : Prop := m.tameN 20
theorem Mate.tameN.up {k k' : Nat} {m : Mate} (h : m.tameN k) (hk : k ≤ k') : m.tameN k' :=
  ⟨h.name, h.clock, h.seen, Nat.le_trans h.nwants hk, h.wants, Nat.le_trans h.nruns hk, h.runs, Nat.le_trans h.nasks hk, h.asks, Nat.le_trans h.ngives hk, h.gives⟩
theorem Mate.tameN.small {k : Nat} {m : Mate} (h : m.tameN k) (hk : k ≤ 1000) : m.small := by
  obtain ⟨_, _, _, h1, _, h2, _, h3, _, h4, _⟩ := h
  exact ⟨by omega, by omega, by omega, by omega⟩

theorem selN3 (a b c : T) {k : Nat} (h : k < [[AV.str a], [.str b], [.str c]].length) : [[AV.str a], [.str b], [.str c]][k]'h = [.str ([a, b, c].getD k ⟨#[]⟩)] := by
  rcases k with _ | _ | _ | k <;> first | rfl | (simp at h; omega)

def wn (wk : Bool) : Nat := if wk then 1 else 0
def an (l : List Ask) : Nat := if l = [] then 0 else 1
/-- A mate's cells, its arrays being numbered from n on; its wants may be nil. -/
def cellsB (n : Nat) (wk : Bool) (m : Mate) : List AV :=
  [.str m.name, .bool m.up, .int .i64 m.clock, .bool m.known, .int .i64 m.seen, if wk then .ref n else .sl .own 7 [], .ref (n + wn wk), ownVi (n + wn wk + 1) 4 (m.asks.map Ask.c), ownVi (n + wn wk + 1 + an m.asks) 4 (m.gives.map Ask.c)]
def arrsB (wk : Bool) (m : Mate) : List AO := (if wk then [.arr 7 (m.wants.map Want.c)] else []) ++ .arr 11 (m.runs.map Run.c) :: (ownH 4 (m.asks.map Ask.c) ++ ownH 4 (m.gives.map Ask.c))

def head156b (bs : List Int) (p : Int) (wk : Bool) (m : Mate) (i : Nat) : St :=
  hd [(0, .ptr 0 0 0), (2, .ptr 1 0 0), (3, .ptr 2 0 0), (7, .int .i64 i)] (rdBox bs p :: .box zeroCells :: .box (cellsB 3 wk m) :: arrsB wk m) 1
def head156c (bs : List Int) (p : Int) (wk : Bool) (m : Mate) (i : Nat) (a : Ask) (j : Nat) : St :=
  hd [(0, .ptr 0 0 0), (2, .ptr 1 0 0), (3, .ptr 2 0 0), (7, .int .i64 i), (8, .ptr 3 0 0), (9, .int .i64 j)] (rdBox bs p :: .box zeroCells :: .box (cellsB 4 wk m) :: .box a.c :: arrsB wk m) 1

theorem hp_get : ∀ (os : List AO) (n j : Nat), Ytgdjnflnfeakjaa.hp os n (n + j) = os[j]?
  | [], n, j => by simp [Ytgdjnflnfeakjaa.hp]
  | o :: os, n, 0 => by simp [Ytgdjnflnfeakjaa.hp, upd]
  | o :: os, n, j + 1 => by
    have h := hp_get os (n + 1) j
    rw [show n + 1 + j = n + (j + 1) by omega] at h
    have e : ¬ (n + (j + 1) = n) := by omega
    simp [Ytgdjnflnfeakjaa.hp, upd, h, e]

theorem mem_snoc {α : Type} {l : List α} {P : α → Prop} (h : ∀ x ∈ l, P x) {y : α} (hy : P y) : ∀ x ∈ l ++ [y], P x := by
  intro x hx
  rcases List.mem_append.1 hx with hx | hx
  · exact h x hx
  · rw [List.mem_singleton.1 hx]; exact hy

/-- A state in the midst of a mate's draw. -/
structure Mid (bs : List Int) (q : Int) (wk : Bool) (m : Mate) (i : Nat) (a : Ask) (s : St) : Prop where
  s0 : s.slots 0 = .ptr 0 0 0
  s2 : s.slots 2 = .ptr 1 0 0
  s3 : s.slots 3 = .ptr 2 0 0
  s7 : s.slots 7 = .int .i64 i
  s8 : s.slots 8 = .ptr 3 0 0
  h0 : s.heap 0 = some (rdBox bs q)
  h1 : s.heap 1 = some (.box zeroCells)
  h2 : s.heap 2 = some (.box (cellsB 4 wk m))
  h3 : s.heap 3 = some (.box a.c)
  hx : ∀ k, k < 5 → s.heap (4 + k) = (arrsB wk m)[k]?
  nx : 100 ≤ s.next
  base : s.base = 1

def codeEnd : CCode := (.seq (.region [⟨some 160, .mov (.tmp 0), none⟩, ⟨some 161, .call 89 [true, false] [.tmp 160, .const (.int .i64 4)], none⟩] [0, 2, 3, 7, 8, 161])
  (.block 6 (.seq (.seq (.region [⟨some 163, .bin .eql (.tmp 161) (.const (.int .i64 0)), none⟩, ⟨some 162, .mov (.tmp 163), none⟩] [0, 2, 3, 7, 8, 161, 162]) (.cond (.tmp 162) .skip (.region [⟨some 164, .bin .eql (.tmp 161) (.const (.int .i64 1)), none⟩, ⟨some 162, .mov (.tmp 164), none⟩] [0, 2, 3, 7, 8, 161, 162])))
    (.cond (.tmp 162) (.region [⟨some 165, .faddr (.tmp 3) 7, none⟩, ⟨some 166, .load (.tmp 165) 1 false .plain, none⟩, ⟨some 167, .load (.tmp 8) 4 true .plain, none⟩, ⟨some 168, .bslice 4 [.str ⟨#[]⟩, .str ⟨#[]⟩, .int .i64 0, .int .i64 0] 1 [(0, .tmp 167)], none⟩, ⟨some 169, .append 4 48 true (.tmp 166) (.tmp 168), none⟩, ⟨some 170, .faddr (.tmp 3) 7, none⟩, ⟨none, .store (.tmp 170) (.tmp 169) 1, none⟩] [0, 2, 3, 7])
      (.seq (.region [⟨some 172, .bin .eql (.tmp 161) (.const (.int .i64 2)), none⟩, ⟨some 171, .mov (.tmp 172), none⟩] [0, 2, 3, 7, 8, 171])
        (.cond (.tmp 171) (.region [⟨some 173, .faddr (.tmp 3) 8, none⟩, ⟨some 174, .load (.tmp 173) 1 false .plain, none⟩, ⟨some 175, .load (.tmp 8) 4 true .plain, none⟩, ⟨some 176, .bslice 4 [.str ⟨#[]⟩, .str ⟨#[]⟩, .int .i64 0, .int .i64 0] 1 [(0, .tmp 175)], none⟩, ⟨some 177, .append 4 48 true (.tmp 174) (.tmp 176), none⟩, ⟨some 178, .faddr (.tmp 3) 8, none⟩, ⟨none, .store (.tmp 178) (.tmp 177) 1, none⟩] [0, 2, 3, 7]) .skip))))))

theorem draw_end {Q : AV × List (Option AO) → Prop} {Y : St → Option (AExit × St)} {fs2 : List Fr} (bs : List Int) (q : Int) (wk : Bool) (m : Mate) (i : Nat) (a : Ask) (hb : Code bs) (h0 : 0 ≤ q) (hq : q ≤ 10000000000) (hi : i < 3) (hA : m.asks.length ≤ 3) (hG : m.gives.length ≤ 3)
    (hY : ∀ m' s', (m' = m ∨ m' = { m with asks := m.asks ++ [a] } ∨ m' = { m with gives := m.gives ++ [a] }) → s'.norm [0, 2, 3, 7] = head156b bs (q + 1) wk m' (i + 1) → Ends (fin [CRes.cell 2 9 true] 1 (Y s')) Q) (s : St) (hs : Mid bs q wk m i a s) :
    Ends (fin [CRes.cell 2 9 true] 1 (X F (.code codeEnd :: .blk 3 :: .code (.region [⟨some 100, .mov (.tmp 7), none⟩, ⟨some 101, .bin .add (.tmp 100) (.const (.int .i64 1)), none⟩, ⟨some 7, .mov (.tmp 101), none⟩] [0, 2, 3, 7]) :: .back Y :: fs2) (.normal, s))) Q := by
  obtain ⟨s0, s2, s3, s7, s8, g0, g1, g2, g3, gx, nx0, base⟩ := hs
  obtain ⟨n, nx⟩ : ∃ n, s.next = n + 100 := ⟨s.next - 100, by omega⟩
  obtain ⟨a1, a2, a3⟩ := law89 bs q 4 hb h0 (by omega) (by omega)
  have hw : IntKind.i64.wrap ((i : Int) + 1) = (i : Int) + 1 := i64w (by omega) (by omega)
  simp only [rdBox] at a1 g0
  have gx4 := gx 0 (by omega)
  have gx5 := gx 1 (by omega)
  have gx6 := gx 2 (by omega)
  have gx7 := gx 3 (by omega)
  have e3 : (m.asks.length + 1) * 48 ≤ 140737488355328 := by omega
  have e4 : m.asks.length + 1 ≤ 140737488355328 := by omega
  have e5 : (m.gives.length + 1) * 48 ≤ 140737488355328 := by omega
  have e6 : m.gives.length + 1 ≤ 140737488355328 := by omega
  by_cases k0 : pickV bs q 4 = 0 ∨ pickV bs q 4 = 1
  · cases wk <;> rcases hAA : m.asks with _ | ⟨x, as⟩ <;> rcases hGG : m.gives with _ | ⟨y, gs⟩ <;> rw [hAA] at e3 e4 <;> rcases k0 with k0 | k0 <;>
    · simp [arrsB, hAA, hGG] at gx4 gx5 gx6 gx7
      simp at e3 e4
      simp [codeEnd, s0, s2, s3, s7, s8, g0, g1, g2, g3, gx4, gx5, gx6, gx7, nx, base, a1, k0, cellsB, wn, an, hAA, hGG, takeRows, rowsPlain, e3, e4]
      refine hY { m with asks := m.asks ++ [a] } _ (.inr (.inl rfl)) ?_
      simp [head156b, rdBox, cellsB, zeroCells, arrsB, wn, an, hAA, hGG, hw, g1, g2, gx4, gx5, gx6, gx7, base]
  by_cases k2 : pickV bs q 4 = 2
  · cases wk <;> rcases hAA : m.asks with _ | ⟨x, as⟩ <;> rcases hGG : m.gives with _ | ⟨y, gs⟩ <;> rw [hGG] at e5 e6 <;>
    · simp [arrsB, hAA, hGG] at gx4 gx5 gx6 gx7
      simp at e5 e6
      simp [codeEnd, s0, s2, s3, s7, s8, g0, g1, g2, g3, gx4, gx5, gx6, gx7, nx, base, a1, k2, cellsB, wn, an, hAA, hGG, takeRows, rowsPlain, e5, e6]
      refine hY { m with gives := m.gives ++ [a] } _ (.inr (.inr rfl)) ?_
      simp [head156b, rdBox, cellsB, zeroCells, arrsB, wn, an, hAA, hGG, hw, g1, g2, gx4, gx5, gx6, gx7, base]
  · have k0a : ¬ pickV bs q 4 = 0 := fun h => k0 (.inl h)
    have k0b : ¬ pickV bs q 4 = 1 := fun h => k0 (.inr h)
    cases wk <;> rcases hAA : m.asks with _ | ⟨x, as⟩ <;> rcases hGG : m.gives with _ | ⟨y, gs⟩ <;>
    · simp [arrsB, hAA, hGG] at gx4 gx5 gx6 gx7
      simp [codeEnd, s0, s2, s3, s7, s8, g0, g1, g2, g3, nx, base, a1, k0a, k0b, k2]
      refine hY m _ (.inl rfl) ?_
      simp [head156b, rdBox, cellsB, zeroCells, arrsB, wn, an, hAA, hGG, hw, g1, g2, gx4, gx5, gx6, gx7, base]

def codeD : CCode := .seq (.loud [⟨some 150, .faddr (.tmp 8) 3, none⟩, ⟨some 151, .load (.tmp 150) 1 false .plain, none⟩, ⟨some 152, .mov (.tmp 0), none⟩, ⟨some 153, .call 89 [true, false] [.tmp 152, .const (.int .i64 6)], none⟩, ⟨some 154, .bin .sub (.tmp 151) (.tmp 153), none⟩, ⟨some 155, .faddr (.tmp 8) 2, none⟩, ⟨none, .store (.tmp 155) (.tmp 154) 1, none⟩] [0, 1, 0, 4, 15, 31, 63] [0, 2, 3, 7, 8])
  (.seq (.seq (.region [⟨some 156, .faddr (.tmp 8) 2, none⟩, ⟨some 157, .load (.tmp 156) 1 false .plain, none⟩, ⟨some 158, .bin .lss (.tmp 157) (.const (.int .i64 0)), none⟩] [0, 2, 3, 7, 8, 158]) (.cond (.tmp 158) (.region [⟨some 159, .faddr (.tmp 8) 2, none⟩, ⟨none, .store (.tmp 159) (.const (.int .i64 0)) 1, none⟩] [0, 2, 3, 7, 8]) .skip)) codeEnd)
def codeC : CCode := .seq (.seq (.region [⟨some 146, .faddr (.tmp 8) 3, none⟩, ⟨some 147, .load (.tmp 146) 1 false .plain, none⟩, ⟨some 148, .bin .lss (.tmp 147) (.const (.int .i64 0)), none⟩] [0, 2, 3, 7, 8, 148]) (.cond (.tmp 148) (.region [⟨some 149, .faddr (.tmp 8) 3, none⟩, ⟨none, .store (.tmp 149) (.const (.int .i64 0)) 1, none⟩] [0, 2, 3, 7, 8]) .skip)) codeD

/-- What an ask becomes before it is put into a list. -/
def askFix (a : Ask) (x : Int) : Ask :=
  let t := if a.at_ < 0 then 0 else a.at_
  { a with at_ := t, first := if t - x < 0 then 0 else t - x }

theorem draw_rest {Q : AV × List (Option AO) → Prop} {Y : St → Option (AExit × St)} {fs2 : List Fr} (bs : List Int) (q : Int) (wk : Bool) (m : Mate) (i : Nat) (a : Ask) (hb : Code bs) (h0 : 0 ≤ q) (hq : q ≤ 2000000000) (hi : i < 3) (hA : m.asks.length ≤ 3) (hG : m.gives.length ≤ 3) (hat : tame a.at_)
    (hY : ∀ m' s', (m' = m ∨ m' = { m with asks := m.asks ++ [askFix a (pickV bs q 6)] } ∨ m' = { m with gives := m.gives ++ [askFix a (pickV bs q 6)] }) → s'.norm [0, 2, 3, 7] = head156b bs (q + 2) wk m' (i + 1) → Ends (fin [CRes.cell 2 9 true] 1 (Y s')) Q) (s : St) (hs : Mid bs q wk m i a s) :
    Ends (fin [CRes.cell 2 9 true] 1 (X F (.code codeC :: .blk 3 :: .code (.region [⟨some 100, .mov (.tmp 7), none⟩, ⟨some 101, .bin .add (.tmp 100) (.const (.int .i64 1)), none⟩, ⟨some 7, .mov (.tmp 101), none⟩] [0, 2, 3, 7]) :: .back Y :: fs2) (.normal, s))) Q := by
  obtain ⟨s0, s2, s3, s7, s8, g0, g1, g2, g3, gx, nx0, base⟩ := hs
  obtain ⟨n, nx⟩ : ∃ n, s.next = n + 100 := ⟨s.next - 100, by omega⟩
  obtain ⟨a1, a2, a3⟩ := law89 bs q 6 hb h0 (by omega) (by omega)
  have a4 := a3 (by omega)
  obtain ⟨t1, t2⟩ := hat
  simp only [rdBox] at a1 g0
  have fin' : ∀ (a' : Ask), a' = askFix a (pickV bs q 6) → ∀ s', Mid bs (q + 1) wk m i a' s' → Ends (fin [CRes.cell 2 9 true] 1 (X F (.code codeEnd :: .blk 3 :: .code (.region [⟨some 100, .mov (.tmp 7), none⟩, ⟨some 101, .bin .add (.tmp 100) (.const (.int .i64 1)), none⟩, ⟨some 7, .mov (.tmp 101), none⟩] [0, 2, 3, 7]) :: .back Y :: fs2) (.normal, s'))) Q := by
    intro a' ha s' hs'
    refine draw_end bs (q + 1) wk m i a' hb (by omega) (by omega) hi hA hG (fun m' s2 hm' hn => ?_) s' hs'
    rw [show q + 1 + 1 = q + 2 by omega] at hn
    exact hY m' s2 (by rw [← ha]; exact hm') hn
  by_cases c1 : a.at_ < 0
  · have u1 : IntKind.i64.wrap (-(pickV bs q 6)) = -(pickV bs q 6) := i64w (by omega) (by omega)
    by_cases c2 : 0 < pickV bs q 6
    · have c3 : -(pickV bs q 6) < 0 := by omega
      simp [codeC, codeD, s0, s2, s3, s7, s8, g0, g1, g2, g3, nx, base, a1, c1, c2, c3, u1]
      refine fin' ⟨a.hold, a.copy, 0, 0⟩ (by simp [askFix, c1, c2, c3]) _ ⟨by simp, by simp, by simp, by simp, by simp, by simp [rdBox], by simp [g1], by simp [g2], by simp, fun k hk => by have := gx k hk; have e1 : ¬ (4 + k = 3) := (by omega); have e2 : ¬ (4 + k = 0) := (by omega); simpa [e1, e2] using this, by simp, by simp⟩
    · have c3 : ¬ (-(pickV bs q 6) < 0) := by omega
      have c4 : pickV bs q 6 = 0 := by omega
      simp [codeC, codeD, s0, s2, s3, s7, s8, g0, g1, g2, g3, nx, base, a1, c1, c2, c3, u1]
      refine fin' ⟨a.hold, a.copy, -(pickV bs q 6), 0⟩ (by simp [askFix, c1, c2, c3, c4]) _ ⟨by simp, by simp, by simp, by simp, by simp, by simp [rdBox], by simp [g1], by simp [g2], by simp, fun k hk => by have := gx k hk; have e1 : ¬ (4 + k = 3) := (by omega); have e2 : ¬ (4 + k = 0) := (by omega); simpa [e1, e2] using this, by simp, by simp⟩
  · have u1 : IntKind.i64.wrap (a.at_ - pickV bs q 6) = a.at_ - pickV bs q 6 := i64w (by omega) (by omega)
    by_cases c2 : a.at_ - pickV bs q 6 < 0
    · simp [codeC, codeD, s0, s2, s3, s7, s8, g0, g1, g2, g3, nx, base, a1, c1, c2, u1]
      refine fin' ⟨a.hold, a.copy, 0, a.at_⟩ (by simp [askFix, c1, c2]) _ ⟨by simp, by simp, by simp, by simp, by simp, by simp [rdBox], by simp [g1], by simp [g2], by simp, fun k hk => by have := gx k hk; have e1 : ¬ (4 + k = 3) := (by omega); have e2 : ¬ (4 + k = 0) := (by omega); simpa [e1, e2] using this, by simp, by simp⟩
    · simp [codeC, codeD, s0, s2, s3, s7, s8, g0, g1, g2, g3, nx, base, a1, c1, c2, u1]
      refine fin' ⟨a.hold, a.copy, a.at_ - pickV bs q 6, a.at_⟩ (by simp [askFix, c1, c2]) _ ⟨by simp, by simp, by simp, by simp, by simp, by simp [rdBox], by simp [g1], by simp [g2], by simp, fun k hk => by have := gx k hk; have e1 : ¬ (4 + k = 3) := (by omega); have e2 : ¬ (4 + k = 0) := (by omega); simpa [e1, e2] using this, by simp, by simp⟩

end Go.Proofs.Ytgdjnflnfeakjaa

namespace Go.Proofs.Ytgdjnflnfeakjaa
open Go
set_option linter.unusedSimpArgs false
set_option maxRecDepth 100000

theorem fallRun_tame {b : Bool} {r r' : Run} (h : r.tame) (e : fallRun b r = some r') : r'.tame := by
  unfold fallRun at e
  split at e
  · split at e
    · split at e
      · cases e
      · obtain rfl := Option.some.inj e
        exact ⟨h.want, ⟨by simp, by simp⟩, ⟨by simp, by simp⟩, h.falls, h.til⟩
    · obtain rfl := Option.some.inj e
      exact h
  · cases e

theorem fall_tame {m : Mate} (b : Bool) (h : m.tame) : (mateFall m b).tame := by
  unfold mateFall
  split
  · refine ⟨h.name, h.clock, ⟨by simp [Mate.zero], by simp [Mate.zero]⟩, by simp [Mate.zero], by simp [Mate.zero], Nat.le_trans (List.length_filterMap_le _ _) h.nruns, ?_, by simp [Mate.zero], by simp [Mate.zero], by simp [Mate.zero], by simp [Mate.zero]⟩
    intro r hr
    obtain ⟨r0, h1, h2⟩ := List.mem_filterMap.1 hr
    exact fallRun_tame (h.runs r0 h1) h2
  · exact ⟨Nat.zero_le _, ⟨by simp [Mate.zero], by simp [Mate.zero]⟩, ⟨by simp [Mate.zero], by simp [Mate.zero]⟩, by simp [Mate.zero], by simp [Mate.zero], by simp [Mate.zero], by simp [Mate.zero], by simp [Mate.zero], by simp [Mate.zero], by simp [Mate.zero], by simp [Mate.zero]⟩
def head156a (bs : List Int) (p : Int) (m : Mate) (i : Nat) : St :=
  hd [(0, .ptr 0 0 0), (2, .ptr 1 0 0), (3, .ptr 2 0 0), (4, .int .i64 i)] (rdBox bs p :: .box zeroCells :: .box (cellsB 3 true { m with asks := [], gives := [] }) :: arrsB true { m with asks := [], gives := [] }) 1

end Go.Proofs.Ytgdjnflnfeakjaa

namespace Go.Proofs.Ytgdjnflnfeakjaa
open Go
set_option linter.unusedSimpArgs false
set_option maxRecDepth 100000

end Go.Proofs.Ytgdjnflnfeakjaa

namespace Go.Proofs.Ytgdjnflnfeakjaa
open Go
set_option linter.unusedSimpArgs false
set_option maxRecDepth 100000

/-- A mate's cells, its arrays being numbered from n on. -/
def cellsA (n : Nat) (m : Mate) : List AV := [.str m.name, .bool m.up, .int .i64 m.clock, .bool m.known, .int .i64 m.seen, .ref n, .ref (n + 1), .ref (n + 2), .ref (n + 3)]
def arrsA (m : Mate) : List AO := [.arr 7 (m.wants.map Want.c), .arr 11 (m.runs.map Run.c), .arr 4 (m.asks.map Ask.c), .arr 4 (m.gives.map Ask.c)]
def head116a (bs : List Int) (p d : Int) (m : Mate) (i : Nat) : St := hd [(2, .ptr 1 0 0), (3, .ptr 2 0 0), (4, .int .i64 d), (5, .int .i64 i)] (rdBox bs p :: .box zeroCells :: .box (cellsA 3 m) :: arrsA m) 1
def head116b (bs : List Int) (p : Int) (m : Mate) (i : Nat) : St := hd [(0, .ptr 0 0 0), (2, .ptr 1 0 0), (3, .ptr 2 0 0), (6, .int .i64 i)] (rdBox bs p :: .box zeroCells :: .box (cellsA 3 m) :: arrsA m) 1

end Go.Proofs.Ytgdjnflnfeakjaa

namespace Go.Proofs.Ytgdjnflnfeakjaa
open Go
set_option linter.unusedSimpArgs false

theorem textsOf_map : ∀ xs : List T, textsOf (xs.map fun x => [.str x]) = some xs
  | [] => rfl
  | x :: xs => by simp [textsOf, textsOf_map xs]
/-! ### Sizes -/
theorem lit_size (a : Array UInt8) : (⟨a⟩ : T).size = a.size := rfl
theorem le_ok {a : Nat} (h : a ≤ 9223372036854775807) : (a ≤ 9223372036854775807) = True := by simp [h]
theorem text_ext {a b : T} (h : a.data.toList = b.data.toList) : a = b := by
  cases a; cases b; congr; exact Array.ext' h
theorem text_append (a b : T) : (a ++ b).data.toList = a.data.toList ++ b.data.toList := by
  simp
end Go.Proofs.Ytgdjnflnfeakjaa

namespace Go.Proofs.Ytgdjnflnfeakjaa
open Go
set_option linter.unusedSimpArgs false
set_option maxRecDepth 100000

def starOr (h : T) : T := if sEq h ⟨#[]⟩ then ⟨#[42]⟩ else h
def formWant (w : Want) : T := (⟨#[119, 97, 110, 116, 32]⟩ : T) ++ w.copy ++ (⟨#[32]⟩ : T) ++ dec w.version.toNat ++ (⟨#[32]⟩ : T) ++ starOr w.hold ++ (⟨#[32]⟩ : T) ++ dec w.pull.toNat ++ (⟨#[32]⟩ : T) ++ dec w.start.toNat ++ (⟨#[32]⟩ : T) ++ dec w.dies.toNat ++ (⟨#[32]⟩ : T) ++ dec w.grace.toNat ++ (⟨#[10]⟩ : T)

theorem law140' (n : Int) (h0 : 0 ≤ n) (hn : n ≤ 1000000) : F 140 [.int .i64 n] [] = some (.str (dec n.toNat), []) ∧ (dec n.toNat).size ≤ 7 := by
  have h := law140 n.toNat (by omega)
  rw [Int.toNat_of_nonneg h0] at h
  exact ⟨h, dec_size 6 n.toNat (by omega)⟩

theorem starOr_size {h : T} (k : h.size ≤ 20) : (starOr h).size ≤ 20 := by
  unfold starOr
  split
  · show (1 : Nat) ≤ 20; omega
  · exact k

/-- A want whose parts are in their bounds. -/
structure Want.fits (w : Want) : Prop where
  copy : w.copy.size ≤ 20
  hold : w.hold.size ≤ 20
  version : 0 ≤ w.version ∧ w.version ≤ 1000000
  pull : 0 ≤ w.pull ∧ w.pull ≤ 1000000
  start : 0 ≤ w.start ∧ w.start ≤ 1000000
  dies : 0 ≤ w.dies ∧ w.dies ≤ 1000000
  grace : 0 ≤ w.grace ∧ w.grace ≤ 1000000

end Go.Proofs.Ytgdjnflnfeakjaa

namespace Go.Proofs.Ytgdjnflnfeakjaa
open Go
set_option linter.unusedSimpArgs false

/-- Ascending by a text. -/
def Asc {α : Type} (key : α → T) (xs : List α) : Prop := xs.Pairwise fun a b => sLt (key a) (key b) = true

def ascL {α : Type} (key : α → T) (pre : List α) (x : α) : Bool := match pre.getLast? with
  | none => true
  | some p => sLt (key p) (key x)

theorem asc_snoc {α : Type} (key : α → T) (pre : List α) (x : α) (h : Asc key pre) : ascL key pre x = true ↔ Asc key (pre ++ [x]) := by
  unfold Asc at *
  unfold ascL
  rw [List.pairwise_append]
  rcases List.eq_nil_or_concat pre with rfl | ⟨l, p, rfl⟩
  · simp
  · simp only [List.concat_eq_append, List.getLast?_append, List.getLast?_singleton, Option.some_or] at h ⊢
    constructor
    · intro hp
      refine ⟨h, List.pairwise_singleton _ _, fun a ha b hb => ?_⟩
      rw [List.mem_singleton.1 hb]
      rcases List.mem_append.1 ha with ha | ha
      · exact sLt_trans ((List.pairwise_append.1 h).2.2 a ha p (List.mem_singleton.2 rfl)) hp
      · rw [List.mem_singleton.1 ha]; exact hp
    · exact fun ⟨_, _, k⟩ => k p (List.mem_append_right _ (List.mem_singleton.2 rfl)) x (List.mem_singleton.2 rfl)

theorem ascR_eq (pre : List Run) (r : Run) : ascR pre r = ascL (fun x : Run => x.want.copy) pre r := by unfold ascR ascL; cases pre.getLast? <;> rfl
theorem ascA_eq (pre : List Ask) (r : Ask) : ascA pre r = ascL (fun x : Ask => x.hold) pre r := by unfold ascA ascL; cases pre.getLast? <;> rfl
theorem ascW_eq (pre : List Want) (r : Want) : ascW pre r = ascL (fun x : Want => x.copy) pre r := by unfold ascW ascL; cases pre.getLast? <;> rfl
theorem Asc.left {α : Type} {key : α → T} {a b : List α} (h : Asc key (a ++ b)) : Asc key a := (List.pairwise_append.1 h).1
theorem Asc.right {α : Type} {key : α → T} {a b : List α} (h : Asc key (a ++ b)) : Asc key b := (List.pairwise_append.1 h).2.1
theorem Asc.nil {α : Type} (key : α → T) : Asc key [] := List.Pairwise.nil

theorem runsGo_iff (c : Int) : ∀ (rs pre : List Run), Asc (·.want.copy) pre → (runsGo c pre rs = true ↔ (∀ r ∈ rs, runOk r c = true) ∧ Asc (·.want.copy) (pre ++ rs))
  | [], pre, h => by simp [runsGo, h]
  | r :: rs, pre, h => by
    have e := asc_snoc (fun x : Run => x.want.copy) pre r h
    rw [← ascR_eq] at e
    simp only [runsGo, Bool.and_eq_true]
    constructor
    · rintro ⟨h1, h2, h3⟩
      have h4 := e.1 h2
      obtain ⟨h5, h6⟩ := (runsGo_iff c rs (pre ++ [r]) h4).1 h3
      exact ⟨fun x hx => (List.mem_cons.1 hx).elim (fun q => q ▸ h1) (h5 x), by simpa using h6⟩
    · rintro ⟨h1, h2⟩
      have h3 : Asc (fun x : Run => x.want.copy) ((pre ++ [r]) ++ rs) := by simpa using h2
      exact ⟨h1 r List.mem_cons_self, e.2 h3.left, (runsGo_iff c rs (pre ++ [r]) h3.left).2 ⟨fun x hx => h1 x (List.mem_cons_of_mem _ hx), h3⟩⟩

theorem runsOk_iff (rs : List Run) (c : Int) : runsOk rs c = true ↔ rs.length ≤ 20 ∧ (∀ r ∈ rs, runOk r c = true) ∧ Asc (·.want.copy) rs := by
  simp only [runsOk, Bool.and_eq_true, decide_eq_true_eq]
  rw [runsGo_iff c rs [] (Asc.nil _)]
  rfl

theorem asksGo_iff (c : Int) : ∀ (l pre : List Ask), Asc (·.hold) pre → (asksGo c pre l = true ↔ (∀ r ∈ l, askOk c r = true) ∧ Asc (·.hold) (pre ++ l))
  | [], pre, h => by simp [asksGo, h]
  | r :: rs, pre, h => by
    have e := asc_snoc (fun x : Ask => x.hold) pre r h
    rw [← ascA_eq] at e
    simp only [asksGo, Bool.and_eq_true]
    constructor
    · rintro ⟨h1, h2, h3⟩
      have h4 := e.1 h2
      obtain ⟨h5, h6⟩ := (asksGo_iff c rs (pre ++ [r]) h4).1 h3
      exact ⟨fun x hx => (List.mem_cons.1 hx).elim (fun q => q ▸ h1) (h5 x), by simpa using h6⟩
    · rintro ⟨h1, h2⟩
      have h3 : Asc (fun x : Ask => x.hold) ((pre ++ [r]) ++ rs) := by simpa using h2
      exact ⟨h1 r List.mem_cons_self, e.2 h3.left, (asksGo_iff c rs (pre ++ [r]) h3.left).2 ⟨fun x hx => h1 x (List.mem_cons_of_mem _ hx), h3⟩⟩

theorem asksOk_iff (l : List Ask) (c : Int) : asksOk l c = true ↔ l.length ≤ 40 ∧ (∀ r ∈ l, askOk c r = true) ∧ Asc (·.hold) l := by
  simp only [asksOk, Bool.and_eq_true, decide_eq_true_eq]
  rw [asksGo_iff c l [] (Asc.nil _)]
  rfl

/-- No two have one hold. -/
def Apart (ws : List Want) : Prop := ws.Pairwise fun a b => sEq b.hold ⟨#[]⟩ = true ∨ sEq a.hold b.hold = false

theorem fresh_snoc (pre : List Want) (w : Want) (h : Apart pre) : freshW pre w = true ↔ Apart (pre ++ [w]) := by
  unfold Apart at *
  rw [List.pairwise_append]
  simp only [freshW, heldB, Bool.or_eq_true, Bool.not_eq_true', List.any_eq_false, Bool.not_eq_true]
  constructor
  · rintro (h1 | h1)
    · exact ⟨h, List.pairwise_singleton _ _, fun a _ b hb => by rw [List.mem_singleton.1 hb]; exact .inl h1⟩
    · exact ⟨h, List.pairwise_singleton _ _, fun a ha b hb => by rw [List.mem_singleton.1 hb]; exact .inr (h1 a ha)⟩
  · rintro ⟨_, _, k⟩
    by_cases e : sEq w.hold ⟨#[]⟩ = true
    · exact .inl e
    · exact .inr fun a ha => (k a ha w (List.mem_singleton.2 rfl)).resolve_left e

theorem wantsGo_iff : ∀ (l pre : List Want), Asc (·.copy) pre → Apart pre → (wantsGo pre l = true ↔ (∀ r ∈ l, wantOk r = true) ∧ Asc (·.copy) (pre ++ l) ∧ Apart (pre ++ l))
  | [], pre, h, k => by simp [wantsGo, h, k]
  | r :: rs, pre, h, k => by
    have e := asc_snoc (fun x : Want => x.copy) pre r h
    rw [← ascW_eq] at e
    have e2 := fresh_snoc pre r k
    simp only [wantsGo, Bool.and_eq_true]
    constructor
    · rintro ⟨h1, h2, h3, h7⟩
      have h4 := e.1 h2
      obtain ⟨h5, h6, h8⟩ := (wantsGo_iff rs (pre ++ [r]) h4 (e2.1 h3)).1 h7
      exact ⟨fun x hx => (List.mem_cons.1 hx).elim (fun q => q ▸ h1) (h5 x), by simpa using h6, by simpa using h8⟩
    · rintro ⟨h1, h2, h4⟩
      have h3 : Asc (fun x : Want => x.copy) ((pre ++ [r]) ++ rs) := by simpa using h2
      have h5 : Apart ((pre ++ [r]) ++ rs) := by simpa using h4
      have h6 : Apart (pre ++ [r]) := (List.pairwise_append.1 h5).1
      exact ⟨h1 r List.mem_cons_self, e.2 h3.left, e2.2 h6, (wantsGo_iff rs (pre ++ [r]) h3.left h6).2 ⟨fun x hx => h1 x (List.mem_cons_of_mem _ hx), h3, h5⟩⟩

theorem wantsOk_iff (ws : List Want) : wantsOk ws = true ↔ ws.length ≤ 10 ∧ (∀ w ∈ ws, wantOk w = true) ∧ Asc (·.copy) ws ∧ Apart ws := by
  simp only [wantsOk, Bool.and_eq_true, decide_eq_true_eq]
  rw [wantsGo_iff ws [] (Asc.nil _) List.Pairwise.nil]
  rfl

theorem isName_nil : isName ⟨#[]⟩ = false := by decide

theorem mateParts_iff (m : Mate) : mateParts m = true ↔ isName m.name = true ∧ inR m.clock 0 1000000 = true ∧ inR m.seen 0 1000000 = true ∧ wantsOk m.wants = true ∧ (m.known = true ∨ m.wants = []) ∧ runsOk m.runs m.clock = true ∧ asksOk m.asks m.clock = true ∧ asksOk m.gives m.clock = true := by
  simp only [mateParts, Bool.and_eq_true, Bool.or_eq_true, List.isEmpty_iff]

theorem mateValid_iff (m : Mate) : mateValid m = true ↔ mateParts m = true ∧ apartGo m.gives m.asks = true ∧ (m.up = true ∨ mateDown m = true) := by
  simp only [mateValid, Bool.and_eq_true, Bool.or_eq_true]

theorem asksOk_nil (c : Int) : asksOk [] c = true := by simp [asksOk, asksGo]
theorem wantsOk_nil : wantsOk [] = true := by simp [wantsOk, wantsGo]

theorem fallRun_ok {b : Bool} {r r' : Run} {c : Int} (h : runOk r c = true) (e : fallRun b r = some r') : runOk r' c = true ∧ r'.want = r.want ∧ (alive r' || !sEq r'.want.hold ⟨#[]⟩) = true ∧ alive r' = !b ∧ (b = false → r' = r ∧ alive r = true) := by
  unfold fallRun at e
  split at e
  case isFalse => cases e
  rename_i ha
  cases b
  · simp only [Bool.false_eq_true, if_false, Option.some.injEq] at e
    subst e
    exact ⟨h, rfl, by simp [ha], by simp [ha], fun _ => ⟨rfl, ha⟩⟩
  · simp only [if_true] at e
    split at e
    · cases e
    · rename_i hh
      simp only [Option.some.injEq] at e
      subst e
      have hh' : sEq r.want.hold ⟨#[]⟩ = false := by simpa using hh
      refine ⟨?_, rfl, by simp [hh'], by simp [alive, aliveS], fun h => by cases h⟩
      simp only [runOk, Bool.and_eq_true] at h ⊢
      obtain ⟨h1, h2, h3, h4, h5, h6, h7, h8⟩ := h
      exact ⟨h1, by simp [inR], by simp [inR], by simp, h5, h6, h7, by simp [alive, aliveS]⟩

theorem fall_valid {m : Mate} (b : Bool) (h : mateValid m = true) : mateValid (mateFall m b) = true := by
  obtain ⟨h1, h2, h3⟩ := (mateValid_iff m).1 h
  obtain ⟨p1, p2, p3, p4, p5, p6, p7, p8⟩ := (mateParts_iff m).1 h1
  obtain ⟨r1, r2, r3⟩ := (runsOk_iff _ _).1 p6
  unfold mateFall
  rw [if_pos h]
  refine (mateValid_iff _).2 ⟨(mateParts_iff _).2 ⟨p1, p2, by simp [Mate.zero, inR], wantsOk_nil, .inr rfl, (runsOk_iff _ _).2 ⟨?_, ?_, ?_⟩, asksOk_nil _, asksOk_nil _⟩, by simp [apartGo, Mate.zero], .inr ?_⟩
  · exact Nat.le_trans (List.length_filterMap_le _ _) r1
  · intro r hr
    obtain ⟨r0, k1, k2⟩ := List.mem_filterMap.1 hr
    exact (fallRun_ok (r2 r0 k1) k2).1
  · refine List.Pairwise.filterMap _ (fun a b' hab x hx y hy => ?_) r3
    · have hx' := hx
      have hy' := hy
      have e : ∀ {r r' : Run}, fallRun b r = some r' → r'.want = r.want := fun {r r'} e => by
        unfold fallRun at e
        split at e
        · split at e
          · split at e
            · cases e
            · rw [← Option.some.inj e]
          · rw [← Option.some.inj e]
        · cases e
      simp only at hab ⊢
      rw [e hx, e hy]; exact hab
  · simp only [mateDown, Mate.zero, Bool.not_false, List.isEmpty_nil, beq_self_eq_true, Bool.true_and, downRuns, List.all_eq_true]
    intro r hr
    obtain ⟨r0, k1, k2⟩ := List.mem_filterMap.1 hr
    exact (fallRun_ok (r2 r0 k1) k2).2.2.1

theorem rise_valid {m : Mate} (h : mateValid m = true) : mateValid (mateRise m) = true := by
  obtain ⟨h1, h2, h3⟩ := (mateValid_iff m).1 h
  unfold mateRise
  rw [if_pos h]
  refine (mateValid_iff _).2 ⟨h1, h2, ?_⟩
  simp only [Bool.or_eq_true]
  rcases h3 with h3 | h3
  · exact .inl (.inl h3)
  · exact .inr h3

theorem zero_invalid : mateValid .zero = false := by
  cases h : mateValid .zero with
  | false => rfl
  | true =>
    have := ((mateParts_iff _).1 ((mateValid_iff _).1 h).1).1
    simp [Mate.zero, isName_nil] at this
end Go.Proofs.Ytgdjnflnfeakjaa

namespace Go.Proofs.Ytgdjnflnfeakjaa
open Go
set_option linter.unusedSimpArgs false
set_option maxRecDepth 100000

/-- What is left of a size. -/
def off (l : Int) (n : Nat) : Int := if IntKind.i64.wrap (l - n) < 0 then -1 else IntKind.i64.wrap (l - n)
def offs (l : Int) : List Nat → Int
  | [] => l
  | n :: r => if off l n < 0 then -1 else offs (off l n) r

theorem off_neg {l : Int} {n : Nat} (h : IntKind.i64.wrap (l - n) < 0) : off l n = -1 := by rw [off, if_pos h]
theorem off_pos {l : Int} {n : Nat} (h : ¬ IntKind.i64.wrap (l - n) < 0) : off l n = IntKind.i64.wrap (l - n) := by rw [off, if_neg h]

def szWant (w : Want) (l : Int) : Int := offs l [w.copy.size, w.hold.size]
def szWantGo : List Want → Int → Int
  | [], l => l
  | w :: r, l => if szWant w l < 0 then -1 else szWantGo r (szWant w l)
def szWants (ws : List Want) (l : Int) : Int := if off l ws.length < 0 then -1 else szWantGo ws (off l ws.length)

theorem wrap_len {l : Int} {n : Nat} (h : ¬ IntKind.i64.wrap (l - n) < 0) (hn : n ≤ 9223372036854775807) (h0 : 0 ≤ l) (hx : l ≤ 1048576) : n ≤ 1048576 := by
  rw [IntKind.wrap_i64] at h
  omega

/-- A list that is filled from the left. -/
def fillU {α : Type} (c : α → List AV) (z : List AV) (ws : List α) (i : Nat) : List (List AV) := (ws.take i).map c ++ List.replicate (ws.length - i) z

section
variable {α : Type} (c : α → List AV) (z : List AV) {ws : List α} {i : Nat}
@[simp] theorem fillU_len : (fillU c z ws i).length = ws.length := by simp [fillU]; omega
theorem fillU_get (h : i < ws.length) : (fillU c z ws i)[i]? = some z := by
  have : (List.map c (ws.take i)).length = i := by simp; omega
  rw [fillU, List.getElem?_append_right (by omega), this, Nat.sub_self, List.getElem?_replicate, if_pos (by omega)]
@[simp] theorem fillU_at (h : i < (fillU c z ws i).length) : (fillU c z ws i)[i] = z := by
  have := fillU_get c z (ws := ws) (i := i) (by simpa using h)
  rw [List.getElem?_eq_getElem h] at this
  exact Option.some.inj this
theorem fillU_set {a : α} (h : ws[i]? = some a) : (fillU c z ws i).set i (c a) = fillU c z ws (i + 1) := by
  obtain ⟨hi, hg⟩ := List.getElem?_eq_some_iff.1 h
  have h1 : (List.map c (ws.take i)).length = i := by simp; omega
  rw [fillU, fillU, List.set_append_right _ _ (by omega), h1, Nat.sub_self, show ws.length - i = (ws.length - (i + 1)) + 1 by omega, List.replicate_succ, List.set_cons_zero, take_snoc h]
  simp
theorem fillU_zero : fillU c z ws 0 = List.replicate ws.length z := by simp [fillU]
theorem fillU_all : fillU c z ws ws.length = ws.map c := by simp [fillU]
end

def headToWant (ws : List Want) (i : Nat) : St := hd [(0, .sl .bor 7 (ws.map Want.c)), (3, .ref 0), (4, .int .i64 i)] [.arr 7 (fillU Want.c [.str ⟨#[]⟩, .int .i64 0, .str ⟨#[]⟩, .int .i64 0, .int .i64 0, .int .i64 0, .int .i64 0] ws i)] 0

def headSzWant (ws : List Want) (l : Int) (i : Nat) : St := hd [(0, .sl .bor 7 (ws.map Want.c)), (1, .int .i64 l), (5, .int .i64 i)] [] 0

def headEqWant (ws : List Want) (i : Nat) : St := hd [(0, .sl .bor 7 (ws.map Want.c)), (1, .sl .bor 7 (ws.map Want.c)), (5, .int .i64 i)] [] 0

theorem szWants_len {ws : List Want} {l : Int} (h : 0 ≤ szWants ws l) (hl : ws.length ≤ 9223372036854775807) (h0 : 0 ≤ l) (hx : l ≤ 1048576) : ws.length ≤ 1048576 := by
  unfold szWants at h
  by_cases h2 : IntKind.i64.wrap (l - ws.length) < 0
  · rw [off_neg h2] at h; simp at h
  · exact wrap_len h2 hl h0 hx
end Go.Proofs.Ytgdjnflnfeakjaa

namespace Go.Proofs.Ytgdjnflnfeakjaa
open Go
set_option linter.unusedSimpArgs false
set_option maxRecDepth 100000

def szRun (r : Run) (l : Int) : Int := if szWant r.want l < 0 then -1 else szWant r.want l
def szRunGo : List Run → Int → Int
  | [], l => l
  | w :: r, l => if szRun w l < 0 then -1 else szRunGo r (szRun w l)
def szRuns (ws : List Run) (l : Int) : Int := if off l ws.length < 0 then -1 else szRunGo ws (off l ws.length)

def headToRun (ws : List Run) (i : Nat) : St := hd [(0, .sl .bor 11 (ws.map Run.c)), (3, .ref 0), (4, .int .i64 i)] [.arr 11 (fillU Run.c [.str ⟨#[]⟩, .int .i64 0, .str ⟨#[]⟩, .int .i64 0, .int .i64 0, .int .i64 0, .int .i64 0, .int .i64 0, .int .i64 0, .int .i64 0, .int .i64 0] ws i)] 0

def headSzRun (ws : List Run) (l : Int) (i : Nat) : St := hd [(0, .sl .bor 11 (ws.map Run.c)), (1, .int .i64 l), (5, .int .i64 i)] [] 0

def headEqRun (ws : List Run) (i : Nat) : St := hd [(0, .sl .bor 11 (ws.map Run.c)), (1, .sl .bor 11 (ws.map Run.c)), (5, .int .i64 i)] [] 0

theorem szRuns_len {ws : List Run} {l : Int} (h : 0 ≤ szRuns ws l) (hl : ws.length ≤ 9223372036854775807) (h0 : 0 ≤ l) (hx : l ≤ 1048576) : ws.length ≤ 1048576 := by
  unfold szRuns at h
  by_cases h2 : IntKind.i64.wrap (l - ws.length) < 0
  · rw [off_neg h2] at h; simp at h
  · exact wrap_len h2 hl h0 hx
end Go.Proofs.Ytgdjnflnfeakjaa

namespace Go.Proofs.Ytgdjnflnfeakjaa
open Go
set_option linter.unusedSimpArgs false
set_option maxRecDepth 100000

/-- One more, as Go counts. -/
def up (k : Int) : Int := IntKind.i64.wrap (k + 1)
theorem up_fold (k : Int) : IntKind.i64.wrap (k + 1) = up k := rfl
theorem up_is {k : Int} (h0 : -9223372036854775808 ≤ k) (h1 : k < 9223372036854775807) : up k = k + 1 := i64w (by omega) (by omega)
def it (f : Int → Int) : Nat → Int → Int
  | 0, k => k
  | n + 1, k => f (it f n k)

def markByte (k : Nat) : UInt8 := UInt8.ofNat (IntKind.u8.wrap (IntKind.i64.wrap (48 + Int.tmod (k : Int) 10))).toNat
def markGo (k : Nat) (out : T) : T := if _ : k = 0 then out else markGo (k / 10) (⟨#[markByte k]⟩ ++ out)
termination_by k
decreasing_by omega
def markText (k : Int) : T := if k ≤ 0 then ⟨#[109, 48]⟩ else ⟨#[109]⟩ ++ markGo k.toNat ⟨#[]⟩

theorem size_app (a b : T) : (a ++ b).size = a.size + b.size := ByteArray.size_append

def head96 (k : Nat) (out : T) : St := hd [(0, .int .i64 k), (3, .str out)] [] 0

theorem markGo_size : ∀ (n k : Nat) (out : T), k < 10 ^ n → (markGo k out).size ≤ out.size + n
  | 0, k, out, h => by
    have : k = 0 := by simpa using h
    rw [markGo, dif_pos this]; omega
  | n + 1, k, out, h => by
    rw [markGo]
    split
    · omega
    · have h2 : k / 10 < 10 ^ n := Nat.div_lt_of_lt_mul (by rw [Nat.pow_succ] at h; omega)
      have := markGo_size n (k / 10) (⟨#[markByte k]⟩ ++ out) h2
      rw [size_app] at this
      have h1 : (⟨#[markByte k]⟩ : T).size = 1 := rfl
      omega

/-- A list whose first places are another's. -/
def mixU {α : Type} (c : α → List AV) (ws ms : List α) (i : Nat) : List (List AV) := (ms.take i).map c ++ (ws.drop i).map c

section
variable {α : Type} (c : α → List AV) {ws ms : List α} {i : Nat}
theorem mixU_len (h : ms.length = ws.length) (hi : i ≤ ws.length) : (mixU c ws ms i).length = ws.length := by simp [mixU]; omega
theorem mixU_get {a : α} (ha : ws[i]? = some a) (h : ms.length = ws.length) : (mixU c ws ms i)[i]? = some (c a) := by
  obtain ⟨hi, hg⟩ := List.getElem?_eq_some_iff.1 ha
  have h1 : (List.map c (ms.take i)).length = i := by simp; omega
  rw [mixU, List.getElem?_append_right (by omega), h1, Nat.sub_self, List.getElem?_map, List.getElem?_drop]
  simp [ha]
theorem mixU_set {b : α} (hb : ms[i]? = some b) (h : ms.length = ws.length) : (mixU c ws ms i).set i (c b) = mixU c ws ms (i + 1) := by
  obtain ⟨hi, hg⟩ := List.getElem?_eq_some_iff.1 hb
  have h1 : (List.map c (ms.take i)).length = i := by simp; omega
  rw [mixU, mixU, List.set_append_right _ _ (by omega), h1, Nat.sub_self, List.drop_eq_getElem_cons (show i < ws.length by omega), List.map_cons, List.set_cons_zero, take_snoc hb]
  simp
theorem mixU_at {a : α} (ha : ws[i]? = some a) (h : ms.length = ws.length) (hl : i < (mixU c ws ms i).length) : (mixU c ws ms i)[i] = c a := by
  have := mixU_get c ha h
  rw [List.getElem?_eq_getElem hl] at this
  exact Option.some.inj this
theorem mixU_same {a : α} (ha : ws[i]? = some a) (hb : ms[i]? = some a) (h : ms.length = ws.length) : mixU c ws ms i = mixU c ws ms (i + 1) := by
  have hi := (List.getElem?_eq_some_iff.1 ha).1
  have hl : i < (mixU c ws ms i).length := by rw [mixU_len c h (by omega)]; exact hi
  have := List.set_getElem_self (as := mixU c ws ms i) (i := i) hl
  rw [mixU_at c ha h hl] at this
  rw [← mixU_set c hb h, this]
theorem mixU_zero : mixU c ws ms 0 = ws.map c := by simp [mixU]
theorem mixU_all (h : ms.length = ws.length) : mixU c ws ms ws.length = ms.map c := by simp [mixU, ← h]
end

theorem it_upj {k : Int} (h0 : 0 ≤ k) (h1 : k ≤ 100000000000000) : ∀ j : Nat, j ≤ 100 → it up j k = k + j := by
  intro j
  induction j with
  | zero => intro _; simp [it]
  | succ j ih =>
    intro hj
    rw [it, ih (by omega), up_is (by omega) (by omega)]
    omega

def up4 (k : Int) : Int := up (up (up (up k)))
theorem up4_is {k : Int} (h0 : 0 ≤ k) (h1 : k ≤ 100000000000000) : up4 k = k + 4 := by
  have := it_upj h0 h1 4 (by omega)
  exact this
theorem it_up4 {k : Int} {n : Nat} (h0 : 0 ≤ k) (hk : k ≤ 10000000000000) (hn : n ≤ 1048576) : it up4 n k = k + 4 * n := by
  induction n with
  | zero => simp [it]
  | succ n ih =>
    have := ih (by omega)
    rw [it, this, up4_is (by omega) (by omega)]
    omega
theorem it_up_le4 {k : Int} {i : Nat} (h0 : 0 ≤ k) (hk : k ≤ 10000000000000) (hi : i ≤ 1048576) : ∀ j, j ≤ 11 → it up j (it up4 i k) ≤ 100000000000000 := by
  intro j hj
  have h1 := it_up4 (n := i) h0 hk hi
  have h2 : ∀ j, j ≤ 11 → it up j (it up4 i k) = it up4 i k + j := by
    intro j
    induction j with
    | zero => intro _; simp [it]
    | succ j ih =>
      intro hj
      rw [it, ih (by omega), up_is (by omega) (by omega)]
      omega
  rw [h2 j hj]
  omega

def up5 (k : Int) : Int := up (up (up (up (up k))))
theorem up5_is {k : Int} (h0 : 0 ≤ k) (h1 : k ≤ 100000000000000) : up5 k = k + 5 := by
  have := it_upj h0 h1 5 (by omega)
  exact this
theorem it_up5 {k : Int} {n : Nat} (h0 : 0 ≤ k) (hk : k ≤ 10000000000000) (hn : n ≤ 1048576) : it up5 n k = k + 5 * n := by
  induction n with
  | zero => simp [it]
  | succ n ih =>
    have := ih (by omega)
    rw [it, this, up5_is (by omega) (by omega)]
    omega
theorem it_up_le5 {k : Int} {i : Nat} (h0 : 0 ≤ k) (hk : k ≤ 10000000000000) (hi : i ≤ 1048576) : ∀ j, j ≤ 11 → it up j (it up5 i k) ≤ 100000000000000 := by
  intro j hj
  have h1 := it_up5 (n := i) h0 hk hi
  have h2 : ∀ j, j ≤ 11 → it up j (it up5 i k) = it up5 i k + j := by
    intro j
    induction j with
    | zero => intro _; simp [it]
    | succ j ih =>
      intro hj
      rw [it, ih (by omega), up_is (by omega) (by omega)]
      omega
  rw [h2 j hj]
  omega

def up7 (k : Int) : Int := up (up (up (up (up (up (up k))))))
theorem up7_is {k : Int} (h0 : 0 ≤ k) (h1 : k ≤ 100000000000000) : up7 k = k + 7 := by
  have := it_upj h0 h1 7 (by omega)
  exact this
theorem it_up7 {k : Int} {n : Nat} (h0 : 0 ≤ k) (hk : k ≤ 10000000000000) (hn : n ≤ 1048576) : it up7 n k = k + 7 * n := by
  induction n with
  | zero => simp [it]
  | succ n ih =>
    have := ih (by omega)
    rw [it, this, up7_is (by omega) (by omega)]
    omega
theorem it_up_le7 {k : Int} {i : Nat} (h0 : 0 ≤ k) (hk : k ≤ 10000000000000) (hi : i ≤ 1048576) : ∀ j, j ≤ 11 → it up j (it up7 i k) ≤ 100000000000000 := by
  intro j hj
  have h1 := it_up7 (n := i) h0 hk hi
  have h2 : ∀ j, j ≤ 11 → it up j (it up7 i k) = it up7 i k + j := by
    intro j
    induction j with
    | zero => intro _; simp [it]
    | succ j ih =>
      intro hj
      rw [it, ih (by omega), up_is (by omega) (by omega)]
      omega
  rw [h2 j hj]
  omega

def up11 (k : Int) : Int := up (up (up (up (up (up (up (up (up (up (up k))))))))))
theorem up11_is {k : Int} (h0 : 0 ≤ k) (h1 : k ≤ 100000000000000) : up11 k = k + 11 := by
  have := it_upj h0 h1 11 (by omega)
  exact this
theorem it_up11 {k : Int} {n : Nat} (h0 : 0 ≤ k) (hk : k ≤ 10000000000000) (hn : n ≤ 1048576) : it up11 n k = k + 11 * n := by
  induction n with
  | zero => simp [it]
  | succ n ih =>
    have := ih (by omega)
    rw [it, this, up11_is (by omega) (by omega)]
    omega
theorem it_up_le11 {k : Int} {i : Nat} (h0 : 0 ≤ k) (hk : k ≤ 10000000000000) (hi : i ≤ 1048576) : ∀ j, j ≤ 11 → it up j (it up11 i k) ≤ 100000000000000 := by
  intro j hj
  have h1 := it_up11 (n := i) h0 hk hi
  have h2 : ∀ j, j ≤ 11 → it up j (it up11 i k) = it up11 i k + j := by
    intro j
    induction j with
    | zero => intro _; simp [it]
    | succ j ih =>
      intro hj
      rw [it, ih (by omega), up_is (by omega) (by omega)]
      omega
  rw [h2 j hj]
  omega

end Go.Proofs.Ytgdjnflnfeakjaa

namespace Go.Proofs.Ytgdjnflnfeakjaa
open Go
set_option linter.unusedSimpArgs false
set_option maxRecDepth 100000

def markRun (k : Int) : Run := ⟨⟨markText (k), up k, markText (up (up k)), up (up (up k)), up (up (up (up k))), up (up (up (up (up k)))), up (up (up (up (up (up k)))))⟩, up (up (up (up (up (up (up k)))))), up (up (up (up (up (up (up (up k))))))), up (up (up (up (up (up (up (up (up k)))))))), up (up (up (up (up (up (up (up (up (up k)))))))))⟩
def marksRun (n : Nat) (k : Int) : List Run := (List.range n).map fun i => markRun (it up11 i k)

def headMkRun (ws : List Run) (k : Int) (i : Nat) : St := hd [(0, .ref 0), (1, .int .i64 (it up11 i k)), (5, .int .i64 i)] [.arr 11 (mixU Run.c ws (marksRun ws.length k) i)] 1

def headHlRun (m : Md) (ws : List Run) (k : Int) (i : Nat) : St := hd [(0, .sl m 11 (ws.map Run.c)), (1, .int .i64 (it up11 i k)), (5, .int .i64 i)] [] 0

end Go.Proofs.Ytgdjnflnfeakjaa

namespace Go.Proofs.Ytgdjnflnfeakjaa
open Go
set_option linter.unusedSimpArgs false
set_option maxRecDepth 100000

def szAsk (a : Ask) (l : Int) : Int := offs l [a.hold.size, a.copy.size]
def szAskGo : List Ask → Int → Int
  | [], l => l
  | w :: r, l => if szAsk w l < 0 then -1 else szAskGo r (szAsk w l)
def szAsks (ws : List Ask) (l : Int) : Int := if off l ws.length < 0 then -1 else szAskGo ws (off l ws.length)

def headToAsk (ws : List Ask) (i : Nat) : St := hd [(0, .sl .bor 4 (ws.map Ask.c)), (3, .ref 0), (4, .int .i64 i)] [.arr 4 (fillU Ask.c [.str ⟨#[]⟩, .str ⟨#[]⟩, .int .i64 0, .int .i64 0] ws i)] 0

def headSzAsk (ws : List Ask) (l : Int) (i : Nat) : St := hd [(0, .sl .bor 4 (ws.map Ask.c)), (1, .int .i64 l), (5, .int .i64 i)] [] 0

def headEqAsk (ws : List Ask) (i : Nat) : St := hd [(0, .sl .bor 4 (ws.map Ask.c)), (1, .sl .bor 4 (ws.map Ask.c)), (5, .int .i64 i)] [] 0

end Go.Proofs.Ytgdjnflnfeakjaa

namespace Go.Proofs.Ytgdjnflnfeakjaa
open Go
set_option linter.unusedSimpArgs false
set_option maxRecDepth 100000

theorem off_le {l : Int} {n : Nat} (h0 : 0 ≤ l) (hn : n ≤ maxLen) (h : 0 ≤ off l n) (hx : l ≤ 1048576) : off l n ≤ l ∧ n ≤ 1048576 := by
  have hm : maxLen = 9223372036854775807 := rfl
  by_cases h2 : IntKind.i64.wrap (l - n) < 0
  · rw [off_neg h2] at h; simp at h
  · rw [off_pos h2] at *
    rw [i64w (by omega) (by omega)] at *
    omega

theorem szWant_le {w : Want} {l : Int} (hw : w.wf) (h0 : 0 ≤ l) (hx : l ≤ 1048576) (h : 0 ≤ szWant w l) : szWant w l ≤ l := by
  unfold szWant offs offs offs at *
  split at h
  · simp at h
  · rename_i h1
    have k1 := off_le h0 hw.copy (by omega) hx
    rw [if_neg h1]
    split at h
    · simp at h
    · rename_i h2
      have k2 := off_le (l := off l w.copy.size) (by omega) hw.hold (by omega) (by omega)
      rw [if_neg h2]
      omega

theorem szRun_le {w : Run} {l : Int} (hw : w.wf) (h0 : 0 ≤ l) (hx : l ≤ 1048576) (h : 0 ≤ szRun w l) : szRun w l ≤ l := by
  unfold szRun at *
  split at h
  · simp at h
  · rename_i h1
    rw [if_neg h1]
    exact szWant_le hw.want h0 hx h

theorem szAsk_le {w : Ask} {l : Int} (hw : w.wf) (h0 : 0 ≤ l) (hx : l ≤ 1048576) (h : 0 ≤ szAsk w l) : szAsk w l ≤ l := by
  unfold szAsk offs offs offs at *
  split at h
  · simp at h
  · rename_i h1
    have k1 := off_le h0 hw.hold (by omega) hx
    rw [if_neg h1]
    split at h
    · simp at h
    · rename_i h2
      have k2 := off_le (l := off l w.hold.size) (by omega) hw.copy (by omega) (by omega)
      rw [if_neg h2]
      omega

theorem szWants_le {ws : List Want} {l : Int} (hw : ListWf Want.wf ws) (h0 : 0 ≤ l) (hx : l ≤ 1048576) (h : 0 ≤ szWants ws l) : szWants ws l ≤ l ∧ ws.length ≤ 1048576 := by
  have go : ∀ (ws : List Want) (l : Int), (∀ w ∈ ws, w.wf) → 0 ≤ l → l ≤ 1048576 → 0 ≤ szWantGo ws l → szWantGo ws l ≤ l := by
    intro ws
    induction ws with
    | nil => intro l _ _ _ _; exact Int.le_refl _
    | cons w r ih =>
      intro l hw h0 hx h
      simp only [szWantGo] at h ⊢
      split at h
      · simp at h
      · rename_i h1
        rw [if_neg h1]
        have k1 := szWant_le (hw w List.mem_cons_self) h0 hx (by omega)
        have := ih _ (fun x hx => hw x (List.mem_cons_of_mem _ hx)) (by omega) (by omega) h
        omega
  unfold szWants at *
  split at h
  · simp at h
  · rename_i h1
    have k1 := off_le h0 hw.len (by omega) hx
    rw [if_neg h1]
    have := go ws _ hw.all (by omega) (by omega) h
    omega

theorem szRuns_le {ws : List Run} {l : Int} (hw : ListWf Run.wf ws) (h0 : 0 ≤ l) (hx : l ≤ 1048576) (h : 0 ≤ szRuns ws l) : szRuns ws l ≤ l ∧ ws.length ≤ 1048576 := by
  have go : ∀ (ws : List Run) (l : Int), (∀ w ∈ ws, w.wf) → 0 ≤ l → l ≤ 1048576 → 0 ≤ szRunGo ws l → szRunGo ws l ≤ l := by
    intro ws
    induction ws with
    | nil => intro l _ _ _ _; exact Int.le_refl _
    | cons w r ih =>
      intro l hw h0 hx h
      simp only [szRunGo] at h ⊢
      split at h
      · simp at h
      · rename_i h1
        rw [if_neg h1]
        have k1 := szRun_le (hw w List.mem_cons_self) h0 hx (by omega)
        have := ih _ (fun x hx => hw x (List.mem_cons_of_mem _ hx)) (by omega) (by omega) h
        omega
  unfold szRuns at *
  split at h
  · simp at h
  · rename_i h1
    have k1 := off_le h0 hw.len (by omega) hx
    rw [if_neg h1]
    have := go ws _ hw.all (by omega) (by omega) h
    omega

theorem szAsks_le {ws : List Ask} {l : Int} (hw : ListWf Ask.wf ws) (h0 : 0 ≤ l) (hx : l ≤ 1048576) (h : 0 ≤ szAsks ws l) : szAsks ws l ≤ l ∧ ws.length ≤ 1048576 := by
  have go : ∀ (ws : List Ask) (l : Int), (∀ w ∈ ws, w.wf) → 0 ≤ l → l ≤ 1048576 → 0 ≤ szAskGo ws l → szAskGo ws l ≤ l := by
    intro ws
    induction ws with
    | nil => intro l _ _ _ _; exact Int.le_refl _
    | cons w r ih =>
      intro l hw h0 hx h
      simp only [szAskGo] at h ⊢
      split at h
      · simp at h
      · rename_i h1
        rw [if_neg h1]
        have k1 := szAsk_le (hw w List.mem_cons_self) h0 hx (by omega)
        have := ih _ (fun x hx => hw x (List.mem_cons_of_mem _ hx)) (by omega) (by omega) h
        omega
  unfold szAsks at *
  split at h
  · simp at h
  · rename_i h1
    have k1 := off_le h0 hw.len (by omega) hx
    rw [if_neg h1]
    have := go ws _ hw.all (by omega) (by omega) h
    omega

/-- One part after another. -/
def szThen (a : Int) (f : Int → Int) : Int := if a < 0 then -1 else f a
def szMate (m : Mate) (l : Int) : Int := szThen (off l m.name.size) fun l => szThen (szWants m.wants l) fun l => szThen (szRuns m.runs l) fun l => szThen (szAsks m.asks l) fun l => szAsks m.gives l

theorem szThen_neg {a : Int} {f : Int → Int} (h : a < 0) : szThen a f = -1 := if_pos h
theorem szThen_pos {a : Int} {f : Int → Int} (h : 0 ≤ a) : szThen a f = f a := if_neg (by omega)

end Go.Proofs.Ytgdjnflnfeakjaa

namespace Go.Proofs.Ytgdjnflnfeakjaa
open Go
set_option linter.unusedSimpArgs false
set_option maxRecDepth 100000

def markWant (k : Int) : Want := ⟨markText (k), up k, markText (up (up k)), up (up (up k)), up (up (up (up k))), up (up (up (up (up k)))), up (up (up (up (up (up k)))))⟩
def marksWant (n : Nat) (k : Int) : List Want := (List.range n).map fun i => markWant (it up7 i k)

def headMkWant (ws : List Want) (k : Int) (i : Nat) : St := hd [(0, .ref 0), (1, .int .i64 (it up7 i k)), (5, .int .i64 i)] [.arr 7 (mixU Want.c ws (marksWant ws.length k) i)] 1

def headHlWant (m : Md) (ws : List Want) (k : Int) (i : Nat) : St := hd [(0, .sl m 7 (ws.map Want.c)), (1, .int .i64 (it up7 i k)), (5, .int .i64 i)] [] 0

def markAsk (k : Int) : Ask := ⟨markText (k), markText (up k), up (up k), up (up (up k))⟩
def marksAsk (n : Nat) (k : Int) : List Ask := (List.range n).map fun i => markAsk (it up4 i k)

def headMkAsk (ws : List Ask) (k : Int) (i : Nat) : St := hd [(0, .ref 0), (1, .int .i64 (it up4 i k)), (5, .int .i64 i)] [.arr 4 (mixU Ask.c ws (marksAsk ws.length k) i)] 1

def headHlAsk (m : Md) (ws : List Ask) (k : Int) (i : Nat) : St := hd [(0, .sl m 4 (ws.map Ask.c)), (1, .int .i64 (it up4 i k)), (5, .int .i64 i)] [] 0

def markMate (m : Mate) (k : Int) : Mate :=
  { m with
    wants := marksWant m.wants.length k
    runs := marksRun m.runs.length (k + 7 * m.wants.length)
    asks := marksAsk m.asks.length (k + 7 * m.wants.length + 11 * m.runs.length)
    gives := marksAsk m.gives.length (k + 7 * m.wants.length + 11 * m.runs.length + 4 * m.asks.length) }
def markMateK (m : Mate) (k : Int) : Int := k + 7 * m.wants.length + 11 * m.runs.length + 4 * m.asks.length + 4 * m.gives.length

/-- A mate's cells, its lists being the arrays from n on. -/
def Mate.refs (n : Nat) (x : Mate) : List AV := [.str x.name, .bool x.up, .int .i64 x.clock, .bool x.known, .int .i64 x.seen, .ref n, .ref (n + 1), .ref (n + 2), .ref (n + 3)]
def Mate.arrs (x : Mate) : List AO := [.arr 7 (x.wants.map Want.c), .arr 11 (x.runs.map Run.c), .arr 4 (x.asks.map Ask.c), .arr 4 (x.gives.map Ask.c)]

theorem markMateK_pos {m : Mate} {k : Int} (h : 0 ≤ k) : ¬ (markMateK m k < 0) := by unfold markMateK; omega
end Go.Proofs.Ytgdjnflnfeakjaa

namespace Go.Proofs.Ytgdjnflnfeakjaa
open Go
set_option linter.unusedSimpArgs false
set_option maxRecDepth 100000

structure Parcel.small (p : Parcel) : Prop where
  wants : p.wants.length ≤ 1048576

end Go.Proofs.Ytgdjnflnfeakjaa

namespace Go.Proofs.Ytgdjnflnfeakjaa
open Go
set_option linter.unusedSimpArgs false
set_option maxRecDepth 100000

theorem isName_size {s : T} (h : isName s = true) : s.size ≤ 20 := by
  simp only [isName, Bool.and_eq_true, decide_eq_true_eq] at h
  exact h.1.2
theorem holdOk_size {s : T} (h : (sEq s ⟨#[]⟩ || isHold s) = true) : s.size ≤ 20 := by
  rcases Bool.or_eq_true_iff.1 h with h | h
  · rw [(sEq_iff _ _).1 h]; decide
  · simp only [isHold, Bool.and_eq_true] at h
    exact isName_size h.1
theorem wantOk_fits {w : Want} (h : wantOk w = true) : w.fits := by
  simp only [wantOk, Bool.and_eq_true, inR, decide_eq_true_eq] at h
  obtain ⟨⟨⟨⟨⟨⟨h1, h2⟩, h3⟩, h4⟩, h5⟩, h6⟩, h7⟩ := h
  exact ⟨isName_size h1, holdOk_size h3, ⟨by omega, by omega⟩, ⟨by omega, by omega⟩, ⟨by omega, by omega⟩, ⟨by omega, by omega⟩, ⟨by omega, by omega⟩⟩
theorem wantOk_star {w : Want} (h : wantOk w = true) : sEq w.hold ⟨#[42]⟩ = false := by
  simp only [wantOk, Bool.and_eq_true] at h
  have h3 := h.1.1.1.1.2
  rcases Bool.or_eq_true_iff.1 h3 with h | h
  · rw [(sEq_iff _ _).1 h]; exact sEq_ne (by intro e; cases e)
  · simp only [isHold, Bool.and_eq_true, Bool.not_eq_true'] at h
    exact h.2

theorem formWant_size {w : Want} (h : w.fits) : (formWant w).size ≤ 90 := by
  obtain ⟨h1, h2, n1, n2, n3, n4, n5⟩ := h
  have b1 := (law140' _ n1.1 n1.2).2
  have b2 := (law140' _ n2.1 n2.2).2
  have b3 := (law140' _ n3.1 n3.2).2
  have b4 := (law140' _ n4.1 n4.2).2
  have b5 := (law140' _ n5.1 n5.2).2
  have hh := starOr_size h2
  have z1 : (⟨#[119, 97, 110, 116, 32]⟩ : T).size = 5 := rfl
  have z2 : (⟨#[32]⟩ : T).size = 1 := rfl
  have z3 : (⟨#[10]⟩ : T).size = 1 := rfl
  unfold formWant
  simp only [app_size]
  omega

theorem digit_eq {d : Nat} : digit d = ⟨#[UInt8.ofNat (48 + d)]⟩ := by
  unfold digit
  congr 2
  simp [UInt8.ofNat_add]
theorem dec_lib : ∀ n : Nat, (dec n).data.toList = Lib.decDigits n := by
  intro n
  induction n using Nat.strongRecOn with
  | ind n ih =>
    rw [dec, Lib.decDigits]
    split
    · rw [digit_eq]
    · rw [text_append, ih (n / 10) (by omega), digit_eq]
theorem itoa_dec {n : Int} (h : 0 ≤ n) : itoaT n = dec n.toNat := by
  apply text_ext
  rw [dec_lib]
  simp [itoaT, Lib.itoa, show ¬ n < 0 by omega]

def noHold (p : Parcel) : Bool := sEq p.hold ⟨#[]⟩ && (sEq p.copy ⟨#[]⟩ && p.at_ == 0)
def toldHead (p : Parcel) : T := (⟨#[116, 111, 108, 100, 32]⟩ : T) ++ p.berth ++ (⟨#[32]⟩ : T) ++ dec p.seen.toNat ++ (⟨#[10]⟩ : T)
def formWants (acc : T) : List Want → T
  | [] => acc
  | w :: ws => formWants (acc ++ formWant w) ws
def word (k : Int) : T := if k = 2 then (⟨#[97, 115, 107, 101, 100, 32]⟩ : T) else if k = 3 then (⟨#[103, 105, 118, 101, 110, 32]⟩ : T) else (⟨#[98, 97, 99, 107, 32]⟩ : T)
/-- A parcel's text, its parts looked at. -/
def formSw (p : Parcel) (h nh : Bool) : T :=
  if p.kind = 1 then (if inR p.seen 1 1000000 && (wantsOk p.wants && nh) then formWants (toldHead p) p.wants else ⟨#[]⟩)
  else if p.kind = 2 ∨ p.kind = 3 ∨ p.kind = 4 then (if h && (isName p.copy && (inR p.at_ 0 1000000 && (p.seen == 0 && p.wants.isEmpty))) then word p.kind ++ p.berth ++ (⟨#[32]⟩ : T) ++ p.hold ++ (⟨#[32]⟩ : T) ++ p.copy ++ (⟨#[32]⟩ : T) ++ dec p.at_.toNat ++ (⟨#[10]⟩ : T) else ⟨#[]⟩)
  else if p.kind = 5 then (if h && (sEq p.copy ⟨#[]⟩ && (inR p.at_ 0 1000000 && (p.seen == 0 && p.wants.isEmpty))) then (⟨#[103, 111, 116, 98, 97, 99, 107, 32]⟩ : T) ++ p.berth ++ (⟨#[32]⟩ : T) ++ p.hold ++ (⟨#[32]⟩ : T) ++ dec p.at_.toNat ++ (⟨#[10]⟩ : T) else ⟨#[]⟩)
  else if p.kind = 6 then (if inR p.seen 0 1000000 && (p.wants.isEmpty && nh) then (⟨#[104, 101, 114, 101, 32]⟩ : T) ++ p.berth ++ (⟨#[32]⟩ : T) ++ dec p.seen.toNat ++ (⟨#[10]⟩ : T) else ⟨#[]⟩)
  else ⟨#[]⟩
def parcelForm (p : Parcel) : T := if isName p.berth then formSw p (isHold p.hold) (noHold p) else ⟨#[]⟩

theorem inR_le {n a b : Int} (h : inR n a b = true) : a ≤ n ∧ n ≤ b := by simpa [inR] using h

def headF (ws : List Want) (i : Nat) (acc : T) : St := hd [(3, .fn 231), (7, .str acc), (69, .sl .bor 7 (ws.map Want.c)), (70, .int .i64 ws.length), (71, .int .i64 i)] [] 0

theorem joinWant (w : Want) (hw : w.fits) : joinT [⟨#[119, 97, 110, 116]⟩, w.copy, itoaT w.version, starOr w.hold, itoaT w.pull, itoaT w.start, itoaT w.dies, itoaT w.grace] ⟨#[32]⟩ ++ ⟨#[10]⟩ = formWant w := by
  rw [itoa_dec hw.version.1, itoa_dec hw.pull.1, itoa_dec hw.start.1, itoa_dec hw.dies.1, itoa_dec hw.grace.1]
  apply text_ext
  simp [joinT, formWant, Lib.join_cons, Lib.joinTail]

theorem joinHold (wd b h c : T) (n : Int) (h1 : wd.size ≤ 20) (h2 : b.size ≤ 20) (h3 : h.size ≤ 20) (h4 : c.size ≤ 20) (n0 : 0 ≤ n) (n1 : n ≤ 1000000) :
    joinT [wd, b, h, c, itoaT n] ⟨#[32]⟩ ++ ⟨#[10]⟩ = wd ++ ⟨#[32]⟩ ++ b ++ ⟨#[32]⟩ ++ h ++ ⟨#[32]⟩ ++ c ++ ⟨#[32]⟩ ++ dec n.toNat ++ ⟨#[10]⟩ ∧ (joinT [wd, b, h, c, itoaT n] ⟨#[32]⟩).size ≤ 200 := by
  have hd := (law140' n n0 n1).2
  have e : joinT [wd, b, h, c, itoaT n] ⟨#[32]⟩ ++ ⟨#[10]⟩ = wd ++ ⟨#[32]⟩ ++ b ++ ⟨#[32]⟩ ++ h ++ ⟨#[32]⟩ ++ c ++ ⟨#[32]⟩ ++ dec n.toNat ++ ⟨#[10]⟩ := by
    rw [itoa_dec n0]
    apply text_ext
    simp [joinT, Lib.join_cons, Lib.joinTail]
  refine ⟨e, ?_⟩
  have hs := congrArg ByteArray.size e
  simp only [app_size] at hs
  have z1 : (⟨#[32]⟩ : T).size = 1 := rfl
  have z2 : (⟨#[10]⟩ : T).size = 1 := rfl
  omega

def headG (p : Parcel) (i : Nat) (acc : T) : St := hd [(1, .ptr 0 0 0), (4, .str acc), (5, .int .i64 i)] [.box (p.c .bor)] 0

end Go.Proofs.Ytgdjnflnfeakjaa

namespace Go.Proofs.Ytgdjnflnfeakjaa
open Go
set_option linter.unusedSimpArgs false
set_option maxRecDepth 100000

def mkT (l : List UInt8) : T := ⟨l.toArray⟩
/-- The pieces, the first with this ahead of it. -/
def cutA (b : UInt8) : List UInt8 → List UInt8 → List (List UInt8)
  | pre, [] => [pre]
  | pre, x :: r => if x = b then pre :: cutA b [] r else cutA b (pre ++ [x]) r
def cutT (s : T) (b : UInt8) : List T := (cutA b [] s.data.toList).map mkT

theorem mkT_data (l : List UInt8) : (mkT l).data.toList = l := rfl
theorem extract_mk (s : T) (a b : Nat) : s.extract a b = mkT ((s.data.toList.take b).drop a) := by
  apply text_ext
  rw [mkT_data, Lib.extract_data]
  simp [List.drop_take]

theorem plain_str (x : T) : rowsPlain [[AV.str x]] = true := rfl

def head194 (s : T) (b : Int) (i : Nat) (o : List T × Nat) : St := hd [(0, .str s), (1, .int .u8 b), (5, .ref 0), (6, .int .i64 o.2), (7, .int .i64 i)] [.arr 1 (o.1.map fun x => [.str x])] 0

/-- A word of a row; the empty text where there are fewer. -/
def atW (ws : List T) (k : Nat) : T := ws.getD k ⟨#[]⟩
/-- A short decimal's number, its digits read on to this. -/
def digs : Int → List UInt8 → Option Int
  | a, [] => some a
  | a, x :: r => if 48 ≤ x.toNat ∧ x.toNat ≤ 57 then digs (a * 10 + (x.toNat - 48 : Int)) r else none
def num7 (s : T) : Int := if 1 ≤ s.size ∧ s.size ≤ 7 then match digs 0 s.data.toList with
    | some n => if sEq (dec n.toNat) s then n else -1
    | none => -1
  else -1

def head226 (s : T) (i : Nat) (a : Int) : St := hd [(0, .str s), (3, .int .i64 a), (4, .int .i64 i)] [] 0
end Go.Proofs.Ytgdjnflnfeakjaa

namespace Go.Proofs.Ytgdjnflnfeakjaa
open Go
set_option linter.unusedSimpArgs false
set_option maxRecDepth 100000
def tl235 : CCode := (.seq (.seq (.region [
    ⟨some 113, .mov (.tmp 0), none⟩,
    ⟨some 114, .bin .eql (.tmp 113) (.const (.str ⟨#[]⟩)), none⟩,
    ⟨some 115, .mov (.tmp 114), none⟩,
    ⟨some 116, .load (.tmp 6) 7 true .plain, some (115, false)⟩,
    ⟨some 117, .call 236 [false] [.tmp 116], some (115, false)⟩,
    ⟨some 118, .mov (.tmp 0), some (115, false)⟩,
    ⟨some 119, .bin .neq (.tmp 117) (.tmp 118), some (115, false)⟩,
    ⟨some 120, .pick (.tmp 115) (.const (.bool true)) (.tmp 119), none⟩] [2, 6, 120])
  (.cond (.tmp 120)
    (.seq (.region [
      ⟨some 121, .build [.int .i64 0, .str ⟨#[]⟩, .int .i64 0, .sl .own 7 [], .str ⟨#[]⟩, .str ⟨#[]⟩, .int .i64 0] [], none⟩,
      ⟨none, .store (.tmp 2) (.tmp 121) 7, none⟩,
      ⟨some 3, .mov (.const (.bool false)), none⟩] [2, 3])
    .ret)
    .skip))
  (.seq (.region [
    ⟨some 122, .load (.tmp 6) 7 true .plain, none⟩,
    ⟨none, .store (.tmp 2) (.tmp 122) 7, none⟩,
    ⟨some 3, .mov (.const (.bool true)), none⟩] [2, 3])
  .ret))
theorem cutA_ne (b : UInt8) : ∀ (l pre : List UInt8), ∃ x r, cutA b pre l = x :: r
  | [], pre => ⟨_, _, rfl⟩
  | a :: l, pre => by
    rw [cutA]
    split
    · exact ⟨_, _, rfl⟩
    · exact cutA_ne b l _
theorem cutT_ne (s : T) (b : UInt8) : ∃ x r, cutT s b = x :: r := by
  obtain ⟨x, r, h⟩ := cutA_ne b s.data.toList []
  exact ⟨mkT x, r.map mkT, by rw [cutT, h]; rfl⟩

def unstar (h : T) : T := if sEq h ⟨#[42]⟩ then ⟨#[]⟩ else h
def readWant (vs : List T) : Want := ⟨atW vs 1, num7 (atW vs 2), unstar (atW vs 3), num7 (atW vs 4), num7 (atW vs 5), num7 (atW vs 6), num7 (atW vs 7)⟩
def readLines (ls : List T) : List Want := ls.dropLast.map fun l => readWant (cutT l 32)
def readKind (w : T) : Int := if sEq w ⟨#[98, 97, 99, 107]⟩ then 4 else if sEq w ⟨#[103, 105, 118, 101, 110]⟩ then 3 else 2
def isAsk (w : T) : Bool := sEq w ⟨#[97, 115, 107, 101, 100]⟩ || (sEq w ⟨#[103, 105, 118, 101, 110]⟩ || sEq w ⟨#[98, 97, 99, 107]⟩)
/-- What a text's words make, looked at one by one. -/
def readWords (w : T) (ws ls : List T) : Parcel :=
  if sEq w ⟨#[116, 111, 108, 100]⟩ then ⟨1, atW ws 1, num7 (atW ws 2), readLines ls, ⟨#[]⟩, ⟨#[]⟩, 0⟩
  else if isAsk w then ⟨readKind w, atW ws 1, 0, [], atW ws 2, atW ws 3, num7 (atW ws 4)⟩
  else if sEq w ⟨#[103, 111, 116, 98, 97, 99, 107]⟩ then ⟨5, atW ws 1, 0, [], atW ws 2, ⟨#[]⟩, num7 (atW ws 3)⟩
  else if sEq w ⟨#[104, 101, 114, 101]⟩ then ⟨6, atW ws 1, num7 (atW ws 2), [], ⟨#[]⟩, ⟨#[]⟩, 0⟩
  else ⟨0, atW ws 1, 0, [], ⟨#[]⟩, ⟨#[]⟩, 0⟩
def readS (s : T) : Parcel := readWords (atW (cutT (atW (cutT s 10) 0) 32) 0) (cutT (atW (cutT s 10) 0) 32) (cutT s 10).tail
def noParcel : Parcel := ⟨0, ⟨#[]⟩, 0, [], ⟨#[]⟩, ⟨#[]⟩, 0⟩
def readT (s : T) : Parcel × Bool := if sEq s ⟨#[]⟩ || !(sEq (parcelForm (readS s)) s) then (noParcel, false) else (readS s, true)

/-- The wants of a parcel that lies in a box: no row yet, or a row of its own. -/
def Held (h : Nat → Option AO) (b : Nat) (ws : List Want) (W : AV) : Prop := (W = .sl .own 7 [] ∧ ws = []) ∨ ∃ c, W = .ref c ∧ c ≠ b ∧ c ≠ 0 ∧ h c = some (.arr 7 (ws.map Want.c))

theorem cutA_len (b : UInt8) : ∀ l pre : List UInt8, (cutA b pre l).length ≤ l.length + 1
  | [], pre => by simp [cutA]
  | a :: l, pre => by
    rw [cutA]
    split
    · have := cutA_len b l []; simp only [List.length_cons]; omega
    · have := cutA_len b l (pre ++ [a]); simp only [List.length_cons]; omega
theorem cutT_len (s : T) (b : UInt8) : (cutT s b).length ≤ s.size + 1 := by
  have := cutA_len b s.data.toList []
  rw [size_toList] at this
  simpa [cutT] using this
theorem cutA_mem (b : UInt8) : ∀ l pre x : List UInt8, x ∈ cutA b pre l → x.length ≤ pre.length + l.length
  | [], pre, x, h => by simp [cutA] at h; subst h; simp
  | a :: l, pre, x, h => by
    rw [cutA] at h
    split at h
    · rcases List.mem_cons.1 h with h | h
      · subst h; omega
      · have := cutA_mem b l [] x h; simp only [List.length_cons, List.length_nil] at *; omega
    · have := cutA_mem b l (pre ++ [a]) x h; simp only [List.length_cons, List.length_append, List.length_nil] at *; omega
theorem cutT_mem {s x : T} {b : UInt8} (h : x ∈ cutT s b) : x.size ≤ s.size := by
  simp only [cutT, List.mem_map] at h
  obtain ⟨l, h1, rfl⟩ := h
  have := cutA_mem b _ _ _ h1
  rw [size_toList] at this
  have e : (mkT l).size = l.length := rfl
  rw [e]
  simpa using this

def readOut (s : T) (p : Parcel) : Parcel × Bool := if sEq s ⟨#[]⟩ || !(sEq (parcelForm p) s) then (noParcel, false) else (p, true)
def wantsV : List Want → AV
  | [] => .sl .own 7 []
  | _ :: _ => .ref 3
def wantsH : List Want → List AO
  | [] => []
  | w :: ws => [.arr 7 ((w :: ws).map Want.c)]
def head235 (s : T) (ls : List T) (b : T) (n : Int) (j : Nat) (acc : List Want) : St := hd [(0, .str s), (2, .ptr 0 0 0), (4, .ref 1), (6, .ptr 2 0 0), (7, .int .i64 ((j : Int) + 1))]
  ([.box [.int .i64 0, .str ⟨#[]⟩, .int .i64 0, .sl .own 7 [], .str ⟨#[]⟩, .str ⟨#[]⟩, .int .i64 0], .arr 1 (ls.map fun x => [.str x]), .box [.int .i64 1, .str b, .int .i64 n, wantsV acc, .str ⟨#[]⟩, .str ⟨#[]⟩, .int .i64 0]] ++ wantsH acc) 0

end Go.Proofs.Ytgdjnflnfeakjaa
