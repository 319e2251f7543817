/- The arguments of a law, read as the abstract machine's values; a whole call from outside. · A law's call from outside: its arguments read, nothing below turned, its answer. · The laws' arguments, read as the program's data. · Draws: the reader of the code. · Layer 1: names, holds and wants: what the program's and the reference's checks compute. · Layer 2: runs: what the program's and the reference's checks compute. · Layer 4: asks, and what a mate must be. · Layer 6: the book of grants: what it must be. · Layer 8: worlds: what they must be. · Layer 3: ticks of runs. · Layer 5: copies of mates; falls and rises. · Layer 8: has a world settled? · Layer 3: a tick of a run's life. · Draws: wants and runs. · Runs that end in some result of a kind. · Draws: decimals, lists of wants and of runs. · Draws: mates. · Draws: a valid mate. · Draws: a mate that is spoilt. · Draws: any mate, and one that falls. · The library's functions in the abstract machine; sizes of texts. -/
import Derived.Test.YtpiljklnekefoaaGreatDoorB4
import Derived.Carry
import Derived.ChangeArms
import Derived.DataReads
import Derived.Test.YtpiljklnekefoaaGreatDoorB2
namespace Go.Proofs.YtpiljklnekefoaaGreatDoor
open Go Go.RowKit Go.WideShapes
set_option linter.unusedSimpArgs false

inductive Sh where
  | bool
  | int (k : IntKind)
  | str
  | sl (row : List Sh)

mutual
def Fits : Sh → AV → Prop
  | .bool, c => ∃ b, c = .bool b
  | .int k, c => ∃ n, c = .int k n ∧ (Lit.int k n).wf = true
  | .str, c => ∃ s : ByteArray, c = .str s ∧ s.size ≤ maxLen
  | .sl row, c => ∃ xs, c = .sl .bor row.length xs ∧ xs.length ≤ maxLen ∧ ∀ r ∈ xs, FitsL row r
def FitsL : List Sh → List AV → Prop
  | [], [] => True
  | s :: ss, c :: cs => Fits s c ∧ FitsL ss cs
  | _, _ => False
end

theorem FitsL.append : ∀ {as bs : List Sh} {cs ds : List AV}, FitsL as cs → FitsL bs ds → FitsL (as ++ bs) (cs ++ ds)
  | [], _, [], _, _, h => h
  | _ :: _, _, _ :: _, _, h, k => by
    simp only [FitsL, List.cons_append] at h ⊢
    exact ⟨h.1, FitsL.append h.2 k⟩
  | [], _, _ :: _, _, h, _ => by simp [FitsL] at h
  | _ :: _, _, [], _, h, _ => by simp [FitsL] at h

theorem FitsL.len : ∀ {as : List Sh} {cs : List AV}, FitsL as cs → cs.length = as.length
  | [], [], _ => rfl
  | _ :: _, _ :: _, h => by simp only [FitsL] at h; simp [FitsL.len h.2]
  | [], _ :: _, h => by simp [FitsL] at h
  | _ :: _, [], h => by simp [FitsL] at h

def shFs (F : TypeId → Option (List Sh)) (P : Program) : Nat → List Field → Option (List Sh)
  | _, [] => some []
  | off, f :: fs => match F f.type with
    | some a => if f.offset = off ∧ P.cellsOf f.type = a.length then match shFs F P (off + a.length) fs with
      | some b => some (a ++ b)
      | none => none
      else none
    | none => none

def shOf (P : Program) : Nat → TypeId → Option (List Sh)
  | 0, _ => none
  | d + 1, t => match P.underlying t with
    | some .bool => some [.bool]
    | some (.int k) => some [.int k]
    | some .string => some [.str]
    | some (.slice e) => match shOf P d e with
      | some row => if P.cellsOf e = row.length ∧ row.length ≠ 0 then some [.sl row] else none
      | none => none
    | some (.struct fs) => match shFs (shOf P d) P 0 fs.toList with
      | some a => if P.cellsOf t = a.length then some a else none
      | none => none
    | _ => none

section
variable {H : Type} {enc : TypeId × Value → H} {P : Program} {W : World} {base : Nat} {spare : Nat → Bool} {held : Bool}

def Old (W : World) (b : Nat) : Prop := b < W.heap.size

structure ReadL (W : World) (cs : List Value) (sh : List Sh) (avs : List AV) : Prop where
  fits : FitsL sh avs
  len : cs.length = avs.length
  bor : ∀ (j : Nat) (u : Value) (c : AV), cs[j]? = some u → avs[j]? = some c → Bor W (Old W) u c

theorem ReadL.one {u : Value} {s : Sh} {c : AV} (hf : Fits s c) (hb : Bor W (Old W) u c) : ReadL W [u] [s] [c] := by
  refine ⟨⟨hf, trivial⟩, rfl, fun j v d hv hd => ?_⟩
  cases j with
  | zero => simp only [List.getElem?_cons_zero, Option.some.injEq] at hv hd; subst hv; subst hd; exact hb
  | succ j => simp at hv

theorem fields_read {F : TypeId → Option (List Sh)} {n : Nat} {cs : List Value} : ∀ (fs : List Field) (off : Nat) (sh : List Sh), shFs F P off fs = some sh → cs.length = off + sh.length →
    (∀ f ∈ fs, ∀ a, F f.type = some a → ∀ cs' y, DataW.trod enc P W base spare held n f.type cs' = some y → ∃ avs, ReadL W cs' a avs) →
    (∀ f ∈ fs, ∃ y, DataW.trod enc P W base spare held n f.type ((cs.drop f.offset).take (P.cellsOf f.type)) = some y) → ∃ avs, ReadL W (cs.drop off) sh avs
  | [], off, sh, hs, hl, _, _ => by
    simp only [shFs, Option.some.injEq] at hs
    subst hs
    refine ⟨[], trivial, by simp at hl ⊢; omega, fun j u c _ hc => by simp at hc⟩
  | f :: fs, off, sh, hs, hl, hF, hr => by
    simp only [shFs] at hs
    cases hf : F f.type with
    | none => rw [hf] at hs; cases hs
    | some a =>
      rw [hf] at hs
      simp only at hs
      split at hs
      case isFalse => cases hs
      rename_i hoff
      obtain ⟨hoff, hsz⟩ := hoff
      cases hb : shFs F P (off + a.length) fs with
      | none => rw [hb] at hs; cases hs
      | some b =>
        rw [hb] at hs
        simp only [Option.some.injEq] at hs
        subst hs
        rw [List.length_append] at hl
        obtain ⟨y, hy⟩ := hr f List.mem_cons_self
        obtain ⟨as, h1⟩ := hF f List.mem_cons_self a hf _ y hy
        obtain ⟨bs, h2⟩ := fields_read fs (off + a.length) b hb (by omega) (fun g hg => hF g (List.mem_cons_of_mem _ hg)) (fun g hg => hr g (List.mem_cons_of_mem _ hg))
        rw [hoff, hsz] at h1
        have hsplit : cs.drop off = (cs.drop off).take a.length ++ cs.drop (off + a.length) := by rw [← List.drop_drop, List.take_append_drop]
        have hla : ((cs.drop off).take a.length).length = a.length := by simp; omega
        have hlas := h1.fits.len
        refine ⟨as ++ bs, h1.fits.append h2.fits, by rw [hsplit, List.length_append, h1.len, h2.len, List.length_append], fun j u c hu hc => ?_⟩
        rw [hsplit] at hu
        by_cases hj : j < a.length
        · rw [List.getElem?_append_left (by omega)] at hu hc
          exact h1.bor j u c hu hc
        · rw [List.getElem?_append_right (by omega), hla] at hu
          rw [List.getElem?_append_right (by omega), hlas] at hc
          exact h2.bor _ u c hu hc

theorem cells_read : ∀ (d : Nat) (t : TypeId) (sh : List Sh), shOf P d t = some sh → ∀ (n : Nat) (cs : List Value) (y : DataW H × List MemPlace), DataW.trod enc P W base spare held n t cs = some y → ∃ avs, ReadL W cs sh avs
  | 0, _, _, hs => by cases hs
  | d + 1, t, sh, hs => by
    intro n cs y hy
    simp only [shOf] at hs
    cases ht : P.underlying t with
    | none => rw [ht] at hs; cases hs
    | some td =>
      rw [ht] at hs
      cases td <;> simp only [reduceCtorEq, Option.some.injEq] at hs
      · subst hs
        obtain ⟨b, rfl, _⟩ := DataW.trod_bool ht hy
        exact ⟨[.bool b], .one ⟨b, rfl⟩ (.bool b)⟩
      · subst hs
        obtain ⟨k, rfl, _, hw⟩ := DataW.trod_int ht hy
        exact ⟨[.int _ k], .one ⟨k, rfl, hw⟩ (.int _ _)⟩
      · subst hs
        obtain ⟨s, rfl, _, hw⟩ := DataW.trod_string ht hy
        exact ⟨[.str s], .one ⟨s, rfl, hw⟩ (.str _)⟩
      · rename_i e
        cases he : shOf P d e with
        | none => rw [he] at hs; cases hs
        | some row =>
          rw [he] at hs
          simp only at hs
          split at hs
          case isFalse => cases hs
          rename_i hsz
          obtain ⟨hsz, hpos⟩ := hsz
          simp only [Option.some.injEq] at hs
          subst hs
          rcases DataW.trod_slice ht hy with ⟨rfl, _⟩ | ⟨a, len, cap, elems, rest, m, _, rfl, _, _, hlc, hcm, hel, hget, _⟩
          · exact ⟨[.sl .bor row.length []], .one ⟨[], rfl, by simp, by simp⟩ (.nil _ _ _ _)⟩
          · by_cases hz : len = 0
            · subst hz
              exact ⟨[.sl .bor row.length []], .one ⟨[], rfl, by simp, by simp⟩ (.nil _ _ _ _)⟩
            · -- every row
              have hrow : ∀ i, ∃ avs csi, i < len → (∀ j, j < row.length → W.cell? ((a.add (i * row.length)).add j) = csi[j]?) ∧ csi.length = row.length ∧ ReadL W csi row avs := by
                intro i
                by_cases hi : i < len
                · have hgi := hget i hi
                  rw [show elems[i]? = some (elems[i]'(by omega)) from List.getElem?_eq_getElem _] at hgi
                  obtain ⟨csi, hc1, hc2⟩ := Option.bind_eq_some_iff.1 hgi
                  rw [hsz] at hc1
                  obtain ⟨_, hl, hcell⟩ := World.cells?_some hc1
                  obtain ⟨avs, hav⟩ := cells_read d e row he m csi _ hc2
                  exact ⟨avs, csi, fun _ => ⟨hcell, hl, hav⟩⟩
                · exact ⟨[], [], fun h => absurd h hi⟩
              let avr : Nat → List AV := fun i => (hrow i).choose
              let csr : Nat → List Value := fun i => (hrow i).choose_spec.choose
              have hr : ∀ i, i < len → (∀ j, j < row.length → W.cell? ((a.add (i * row.length)).add j) = (csr i)[j]?) ∧ (csr i).length = row.length ∧ ReadL W (csr i) row (avr i) := fun i hi => (hrow i).choose_spec.choose_spec hi
              obtain ⟨h01, h02, _⟩ := hr 0 (by omega)
              have hc00 : (csr 0)[0]? = some ((csr 0)[0]'(by omega)) := List.getElem?_eq_getElem _
              have hcell0 := h01 0 (by omega)
              rw [hc00] at hcell0
              have hspot : a.spot = none := by
                have := World.cell?_spot hcell0
                obtain ⟨b, off, sp⟩ := a
                unfold Addr.add at this
                split at this <;> split at this <;> simp_all
              obtain ⟨b, off, sp⟩ := a
              simp only at hspot
              subst hspot
              have hadd : ∀ i j, ((⟨b, off, none⟩ : Addr).add (i * row.length)).add j = ⟨b, off + i * row.length + j, none⟩ := fun i j => by rw [add_none, add_none]
              have hold : Old W b := by
                rw [hadd] at hcell0
                unfold World.cell? at hcell0
                unfold Old
                rcases Nat.lt_or_ge b W.heap.size with h | h
                · exact h
                · simp [Array.getElem?_eq_none h] at hcell0
              let xs : List (List AV) := (List.range len).map avr
              have hxl : xs.length = len := by simp [xs]
              have hxi : ∀ i r, xs[i]? = some r → i < len ∧ r = avr i := fun i r hi => by
                have h1 := (List.getElem?_eq_some_iff.1 hi).1
                have h2 : i < len := by omega
                simp only [xs, List.getElem?_map, List.getElem?_range h2, Option.map_some, Option.some.injEq] at hi
                exact ⟨h2, hi.symm⟩
              refine ⟨[.sl .bor row.length xs], .one ⟨xs, rfl, by omega, fun r hrm => ?_⟩ ?_⟩
              · obtain ⟨i, hi⟩ := List.getElem?_of_mem hrm
                obtain ⟨h1, rfl⟩ := hxi i r hi
                exact (hr i h1).2.2.fits
              · have hb := Bor.sl (w := W) (R := Old W) .bor row.length xs b off cap (fun i j => (csr i)[j]?.getD undef) (by omega) hold (fun r hrm => by
                    obtain ⟨i, hi⟩ := List.getElem?_of_mem hrm
                    obtain ⟨h1, rfl⟩ := hxi i r hi
                    exact (hr i h1).2.2.fits.len) (fun i j c hc => by
                    obtain ⟨r, h1, h2⟩ := cellAt_some.1 hc
                    obtain ⟨hi, rfl⟩ := hxi i r h1
                    obtain ⟨q1, q2, q3⟩ := hr i hi
                    have hj := (List.getElem?_eq_some_iff.1 h2).1
                    have hjl : j < row.length := by rw [← q3.fits.len]; exact hj
                    rw [← hadd, q1 j hjl, List.getElem?_eq_getElem (by omega)]; rfl) (fun i j c hc => by
                    obtain ⟨r, h1, h2⟩ := cellAt_some.1 hc
                    obtain ⟨hi, rfl⟩ := hxi i r h1
                    obtain ⟨q1, q2, q3⟩ := hr i hi
                    have hj := (List.getElem?_eq_some_iff.1 h2).1
                    have hjl : j < row.length := by rw [← q3.fits.len]; exact hj
                    have hu : (csr i)[j]? = some ((csr i)[j]'(by omega)) := List.getElem?_eq_getElem _
                    simp only [hu, Option.getD_some]
                    exact q3.bor j _ c hu h2)
                rw [hxl] at hb
                exact hb
      · rename_i fs
        cases hfs : shFs (shOf P d) P 0 fs.toList with
        | none => rw [hfs] at hs; cases hs
        | some a =>
          rw [hfs] at hs
          simp only at hs
          split at hs
          case isFalse => cases hs
          rename_i hsz
          simp only [Option.some.injEq] at hs
          subst hs
          obtain ⟨xs, m, _, _, hcl, hxl, hget⟩ := DataW.trod_struct ht hy
          have := fields_read (enc := enc) (W := W) (base := base) (spare := spare) (held := held) (n := m) (cs := cs) fs.toList 0 a hfs (by omega) (fun f _ a' ha cs' y hy => cells_read d f.type a' ha m cs' y hy) (fun f hf => by
            obtain ⟨i, hi⟩ := List.getElem?_of_mem hf
            have hi' : fs[i]? = some f := by simpa using hi
            have hlt := (Array.getElem?_eq_some_iff.1 hi').1
            exact ⟨xs[i]'(by omega), (hget i f hi').trans (List.getElem?_eq_getElem _)⟩)
          simpa using this
end
end Go.Proofs.YtpiljklnekefoaaGreatDoor

namespace Go.Proofs.YtpiljklnekefoaaGreatDoor
open Go Go.RowKit Go.WideShapes
set_option linter.unusedSimpArgs false

def cx0 (P : Program) (num : Nat → Option FuncId) (fz : List (Nat × Obj)) (W : World) : Cx := ⟨P, num, Old W, fun _ => False, Old W, Old W, W, 0, fun _ => none, fun _ => undef, fz⟩
def g0 (W : World) : Gh := ⟨fun _ => undef, fun _ _ => False, Old W, Old W, fun _ => False⟩

def ArgRel (num : Nat → Option FuncId) (W : World) (v : Value) (c : AV) : Prop := SRel num W (Old W) (g0 W) (fun _ => none) 0 v c

theorem mem0 (P : Program) (num : Nat → Option FuncId) {fz : List (Nat × Obj)} (W : World) (hfz : ∀ p ∈ fz, W.heap[p.1]? = some p.2) (hsrt : SrtAll P num) : Mem (cx0 P num fz W) (fun _ => none) 0 (g0 W) W :=
  ⟨fun _ _ h => (nomatch h), fun _ _ h => (nomatch h), fun _ _ _ _ _ h => (nomatch h), fun _ _ _ h => (nomatch h), fun _ h => h, fun _ h => h, fun _ h => .inl h, fun _ h => h, fun _ h => h, fun _ h => .inl h,
    fun _ h => absurd h (Nat.not_lt_zero _), fun _ _ h => absurd h (Nat.not_lt_zero _), fun _ h => h, fun _ h => ⟨h, fun h => h⟩, fun _ h => ⟨h, fun h => h⟩, FrameW.refl _ _, fun p hp => ⟨(Array.getElem?_eq_some_iff.1 (hfz p hp)).1, hfz p hp⟩, hsrt⟩

theorem ArgRel.imm {num : Nat → Option FuncId} {W : World} {v : Value} {sz : Nat} {xs : List (List AV)} (h : ArgRel num W v (.sl .bor sz xs)) : ArgRel num W v (.sl .imm sz xs) := by
  cases h with
  | sl _ _ _ _ h1 hm _ _ => exact .sl _ _ _ _ h1 (fun _ => (hm rfl).md) (fun e he => by cases he) (by simp)

theorem fits_lend : ∀ {s : Sh} {c : AV}, Fits s c → c.lend .bor = c
  | .bool, c, h => by simp only [Fits] at h; obtain ⟨b, rfl⟩ := h; rfl
  | .int k, c, h => by simp only [Fits] at h; obtain ⟨n, rfl, _⟩ := h; rfl
  | .str, c, h => by simp only [Fits] at h; obtain ⟨s, rfl, _⟩ := h; rfl
  | .sl row, c, h => by simp only [Fits] at h; obtain ⟨xs, rfl, _⟩ := h; rfl

theorem FitsL.get : ∀ {ss : List Sh} {cs : List AV}, FitsL ss cs → ∀ (j : Nat) (c : AV), cs[j]? = some c → ∃ s, ss[j]? = some s ∧ Fits s c
  | [], [], _, j, c, h => by simp at h
  | s :: ss, d :: cs, h, j, c, hc => by
    simp only [FitsL] at h
    cases j with
    | zero => simp only [List.getElem?_cons_zero, Option.some.injEq] at hc; subst hc; exact ⟨s, rfl, h.1⟩
    | succ j => obtain ⟨s', h1, h2⟩ := FitsL.get h.2 j c (by simpa using hc); exact ⟨s', by simpa using h1, h2⟩
  | [], _ :: _, h, _, _, _ => by simp [FitsL] at h
  | _ :: _, [], h, _, _, _ => by simp [FitsL] at h

section
variable {H : Type} {enc : TypeId × Value → H} {P : Program} {num : Nat → Option FuncId} {W : World} {r : Reach} {b0 base : Nat} {spare : Nat → Bool} {held : Bool} {t : TypeId} {v : Value} {d : DataW H} {ps : List MemPlace}

theorem ReadL.arg {cs : List Value} {sh : List Sh} {avs : List AV} (h : ReadL W cs sh avs) {j : Nat} {u : Value} {c : AV} (hu : cs[j]? = some u) (hc : avs[j]? = some c) : ArgRel num W u c ∧ u.oneCell' = true := by
  obtain ⟨s, _, hs⟩ := h.fits.get j c hc
  have hb := h.bor j u c hu hc
  have := SRel.of_bor (num := num) (w := W) (R := Old W) (g := g0 W) (h := fun _ => none) (ep := 0) (m := .bor) hb (fun e he => by cases he) (by simp)
  rw [fits_lend hs] at this
  exact ⟨this, hb.one⟩

theorem arg_one {s : Sh} {k : Nat} (hs : shOf P k t = some [s]) (hv : v.cells.toList = [v]) (hd : DataW.Trod enc P W base spare held t v d ps) : ∃ c, Fits s c ∧ ArgRel num W v c := by
  obtain ⟨n, hn⟩ := hd
  obtain ⟨avs, ha⟩ := cells_read k t [s] hs n _ _ hn
  rw [hv] at ha
  have hl := ha.fits.len
  match avs, hl, ha with
  | [c], _, ha =>
    have hf := ha.fits
    simp only [FitsL, and_true] at hf
    exact ⟨c, hf, (ha.arg (j := 0) rfl rfl).1⟩

theorem arg_slice {e : TypeId} (ht : P.underlying t = some (.slice e)) {k : Nat} {row : List Sh} (hs : shOf P k t = some [.sl row]) (hval : Value.okWide P W r b0 t v) (hd : DataW.Trod enc P W base spare held t v d ps) :
    ∃ xs, ArgRel num W v (.sl .bor row.length xs) ∧ xs.length ≤ maxLen ∧ ∀ x ∈ xs, FitsL row x := by
  obtain ⟨a, len, cap, rfl⟩ := okWide_slice ht hval
  obtain ⟨c, h1, h2⟩ := arg_one (num := num) (k := k) (s := .sl row) hs rfl hd
  simp only [Fits] at h1
  obtain ⟨xs, rfl, h3, h4⟩ := h1
  exact ⟨xs, h2, h3, h4⟩
end

inductive ArgsRel (num : Nat → Option FuncId) (W : World) : List Value → List AV → Prop
  | nil : ArgsRel num W [] []
  | cons (v : Value) (c : AV) (vs : List Value) (cs : List AV) (h : ArgRel num W v c) (hs : ArgsRel num W vs cs) : ArgsRel num W (v :: vs) (c :: cs)

theorem ArgsRel.get {num : Nat → Option FuncId} {W : World} {vs : List Value} {cs : List AV} (h : ArgsRel num W vs cs) : vs.length = cs.length ∧ ∀ (i : Nat) (v : Value) (c : AV), vs[i]? = some v → cs[i]? = some c → ArgRel num W v c := by
  induction h with
  | nil => exact ⟨rfl, fun i v c hv => by simp at hv⟩
  | cons v c vs cs h _ ih =>
    refine ⟨by simp [ih.1], fun i u d hu hd => ?_⟩
    cases i with
    | zero => simp only [List.getElem?_cons_zero, Option.some.injEq] at hu hd; subst hu; subst hd; exact h
    | succ i => exact ih.2 i u d (by simpa using hu) (by simpa using hd)

theorem law_calls {P : Program} {num : Nat → Option FuncId} {fz : List (Nat × Obj)} {f : FuncId} {fn : Func} {body : Code} (hf : P.funcs[f]? = some fn) (hb : fn.body = some body) (hn : fn.name ≠ "runtime.NumGoroutine") {args : List AV} {ans : Bool}
    (hC : Contract P num fz f args [] (.bool ans) []) {W : World} (hfz : ∀ p ∈ fz, W.heap[p.1]? = some p.2) (hsrt : SrtAll P num) {vs : Array Value} (ha : ArgsRel num W vs.toList args) : Calls P f vs W fun e W' => e = .returned (.bool ans) ∧ Below W.heap.size W W' := by
  obtain ⟨hl, hg⟩ := ha.get
  rw [Array.length_toList] at hl
  have h := hC (cx0 P num fz W) (g0 W) W vs rfl rfl rfl rfl rfl rfl rfl (fun _ h => h.elim) (mem0 P num W hfz hsrt) hl (fun i v c hv hc => hg i v c (by simpa using hv) hc)
  have h2 := h ⟨some 0, .move (.tmp 0), 0, "", #[], none⟩ ⟨#[undef], []⟩ (fun a' w' => ∃ I N S fo, Post (cx0 P num fz W) w' (a'.tmps.getD 0 undef) (.bool ans) [] I N S fo) (fun _ _ _ => False) (fun v w' hp => by
    have : ((⟨#[undef], []⟩ : Act).put (some 0) v).tmps.getD 0 undef = v := by simp [Act.put]
    rw [this]; exact hp)
  have hcf : (callFunc f vs).run P W = .ok (.enter f vs) W := by simp [callFunc, hf, hn, hb]
  rw [hcf, Oper.upon_enter] at h2
  refine h2.mono fun e w' he => ?_
  cases e with
  | panicked _ => exact he.elim
  | outgrown => obtain ⟨_, _, h⟩ := he; exact h.elim
  | returned v =>
    obtain ⟨I, N, S, fo, hp⟩ := he
    have hv : ((⟨#[undef], []⟩ : Act).put (some 0) v).tmps.getD 0 undef = v := by simp [Act.put]
    rw [hv] at hp
    have hres := hp.res
    have : v = .bool ans := by
      cases hres with
      | one _ _ _ h _ => cases h with
        | one _ _ _ h _ => cases h; rfl
    subst this
    exact ⟨rfl, hp.frame.os, hp.frame.tape, hp.frame.output, hp.frame.size, fun k hk => hp.frame.block k hk (fun h => h)⟩
end Go.Proofs.YtpiljklnekefoaaGreatDoor

namespace Go.Proofs.YtpiljklnekefoaaGreatDoor
open Go Go.RowKit Go.WideShapes
set_option linter.unusedSimpArgs false

def I64 (n : Int) : Prop := -9223372036854775808 ≤ n ∧ n ≤ 9223372036854775807
structure Want.wf (w : Want) : Prop where
  copy : w.copy.size ≤ maxLen
  hold : w.hold.size ≤ maxLen
  version : I64 w.version
  pull : I64 w.pull
  start : I64 w.start
  dies : I64 w.dies
  grace : I64 w.grace
structure Run.wf (r : Run) : Prop where
  want : r.want.wf
  state : I64 r.state
  left : I64 r.left
  falls : I64 r.falls
  til : I64 r.til
structure Ask.wf (a : Ask) : Prop where
  hold : a.hold.size ≤ maxLen
  copy : a.copy.size ≤ maxLen
  first : I64 a.first
  at_ : I64 a.at_
structure ListWf {α : Type} (p : α → Prop) (xs : List α) : Prop where
  len : xs.length ≤ maxLen
  all : ∀ x ∈ xs, p x
structure Mate.wf (m : Mate) : Prop where
  name : m.name.size ≤ maxLen
  clock : I64 m.clock
  seen : I64 m.seen
  wants : ListWf Want.wf m.wants
  runs : ListWf Run.wf m.runs
  asks : ListWf Ask.wf m.asks
  gives : ListWf Ask.wf m.gives
structure Parcel.wf (p : Parcel) : Prop where
  kind : I64 p.kind
  berth : p.berth.size ≤ maxLen
  seen : I64 p.seen
  wants : ListWf Want.wf p.wants
  hold : p.hold.size ≤ maxLen
  copy : p.copy.size ≤ maxLen
  at_ : I64 p.at_
structure Grant.wf (g : Grant) : Prop where
  hold : g.hold.size ≤ maxLen
  berth : g.berth.size ≤ maxLen
  copy : g.copy.size ≤ maxLen
  at_ : I64 g.at_
  til : I64 g.til
structure Place.wf (p : Place) : Prop where
  berth : p.berth.size ≤ maxLen
  seen : I64 p.seen
  wants : ListWf Want.wf p.wants
structure Land.wf (l : Land) : Prop where
  time : I64 l.time
  grants : ListWf Grant.wf l.grants
  places : ListWf Place.wf l.places
structure Wld.wf (w : Wld) : Prop where
  land : w.land.wf
  mates : ListWf Mate.wf w.mates
  flight : ListWf (fun s : T => s.size ≤ maxLen) w.flight
structure Event.wf (e : Event) : Prop where
  kind : I64 e.kind
  a : I64 e.a
  b : I64 e.b
  wants : ListWf Want.wf e.wants
  rates : ListWf I64 e.rates

theorem fits_list {α : Type} {row : List Sh} {cf : α → List AV} {p : α → Prop} (hr : ∀ c, FitsL row c → ∃ x, c = cf x ∧ p x) {c : AV} (h : Fits (.sl row) c) : ∃ xs, c = .sl .bor row.length (xs.map cf) ∧ ListWf p xs := by
  simp only [Fits] at h
  obtain ⟨rows, rfl, hl, ha⟩ := h
  have : ∀ rows : List (List AV), (∀ r ∈ rows, FitsL row r) → ∃ xs : List α, rows = xs.map cf ∧ ∀ x ∈ xs, p x := by
    intro rows
    induction rows with
    | nil => intro _; exact ⟨[], rfl, by simp⟩
    | cons r rows ih =>
      intro h
      obtain ⟨x, h1, h2⟩ := hr r (h r List.mem_cons_self)
      obtain ⟨xs, h3, h4⟩ := ih fun r hr => h r (List.mem_cons_of_mem _ hr)
      exact ⟨x :: xs, by rw [h1, h3]; rfl, fun y hy => by
        rcases List.mem_cons.1 hy with rfl | hy
        · exact h2
        · exact h4 y hy⟩
  obtain ⟨xs, rfl, h2⟩ := this rows ha
  exact ⟨xs, rfl, by simpa using hl, h2⟩
theorem fitsL_nil {c : List AV} (h : FitsL [] c) : c = [] := by
  cases c with
  | nil => rfl
  | cons _ _ => simp [FitsL] at h
theorem fitsL_cons {s : Sh} {ss : List Sh} {c : List AV} (h : FitsL (s :: ss) c) : ∃ d ds, c = d :: ds ∧ Fits s d ∧ FitsL ss ds := by
  cases c with
  | nil => simp [FitsL] at h
  | cons d ds => exact ⟨d, ds, rfl, by simpa [FitsL] using h⟩

abbrev rowB (b : Int) : List AV := [.int .u8 b]
def Byte (n : Int) : Prop := 0 ≤ n ∧ n ≤ 255
theorem byte1_of {c : List AV} (h : FitsL [.int .u8] c) : ∃ n, c = rowB n ∧ Byte n := by
  obtain ⟨_, _, rfl, h0, h⟩ := fitsL_cons h
  obtain rfl := fitsL_nil h
  simp only [Fits] at h0
  obtain ⟨n, rfl, hw⟩ := h0
  refine ⟨n, rfl, ?_⟩
  simp [Lit.wf, IntKind.min, IntKind.max, IntKind.signed, IntKind.bits] at hw
  unfold Byte
  omega

theorem arg_of_slice {H : Type} {enc : TypeId × Value → H} {P : Program} {num : Nat → Option FuncId} {W : World} {r : Reach} {b0 base : Nat} {spare : Nat → Bool} {held : Bool} {t : TypeId} {v : Value} {d : DataW H} {ps : List MemPlace} {e : TypeId} (ht : P.underlying t = some (.slice e)) {k : Nat} {row : List Sh} (hs : shOf P k t = some [.sl row]) (hval : Value.okWide P W r b0 t v) (hd : DataW.Trod enc P W base spare held t v d ps) :
    ∃ c, Fits (.sl row) c ∧ ArgRel num W v c := by
  obtain ⟨xs, h1, h2, h3⟩ := arg_slice (num := num) ht hs hval hd
  exact ⟨_, by simp only [Fits]; exact ⟨xs, rfl, h2, h3⟩, h1⟩

theorem tied_lim {P' : Program} {num : Nat → Option FuncId} {fz : List (Nat × Obj)} {p : CProg} (t : Tied P' num fz p) {k : Nat} {f : FuncId} {args : List AV} {r : AV × List (Option AO)} (hn : num k = some f) (h : p.lim k args [] = some r) : Contract P' num fz f args [] r.1 r.2 := by
  obtain ⟨d, hd⟩ := lim_ev.1 h
  exact t.call d k f args [] r.1 r.2 hn (hd d (Nat.le_refl _))
end Go.Proofs.YtpiljklnekefoaaGreatDoor

namespace Go.Proofs.YtpiljklnekefoaaGreatDoor
open Go
set_option linter.unusedSimpArgs false
set_option maxRecDepth 100000

structure Code (bs : List Int) : Prop where
  len : bs.length ≤ 2000
  byte : ∀ b ∈ bs, 0 ≤ b ∧ b ≤ 255

def rdBox (bs : List Int) (p : Int) : AO := .box [.sl .imm 1 (bs.map rowB), .int .i64 p]

noncomputable def pickV (bs : List Int) (p n : Int) : Int := match F 89 [.ptr 0 0 0, .int .i64 n] [rdBox bs p] with
  | some (.int .i64 r, _) => r
  | _ => 0

theorem xor_le {a b : Int} (h1 : 0 ≤ a) (h2 : a < 9223372036854775808) (h3 : 0 ≤ b) (h4 : b < 9223372036854775808) :
    ∃ r : Int, IntKind.i64.wrap (((a % 2 ^ IntKind.i64.bits).toNat ^^^ (b % 2 ^ IntKind.i64.bits).toNat : Nat) : Int) = r ∧ 0 ≤ r ∧ r < 9223372036854775808 := by
  obtain ⟨x, rfl⟩ : ∃ x : Nat, a = x := ⟨a.toNat, by omega⟩
  obtain ⟨y, rfl⟩ : ∃ y : Nat, b = y := ⟨b.toNat, by omega⟩
  have e1 : ((x : Int) % 2 ^ IntKind.i64.bits).toNat = x := by simp [IntKind.bits]; omega
  have e2 : ((y : Int) % 2 ^ IntKind.i64.bits).toNat = y := by simp [IntKind.bits]; omega
  have h := Nat.xor_lt_two_pow (x := x) (y := y) (n := 63) (by omega) (by omega)
  refine ⟨((x ^^^ y : Nat) : Int), ?_, by omega, by omega⟩
  rw [e1, e2]
  exact i64w (by omega) (by omega)

theorem tmod_in {x n : Int} (hx : 0 ≤ x) (hn : 1 ≤ n) : 0 ≤ x.tmod n ∧ x.tmod n < n := by
  rw [Int.tmod_eq_emod_of_nonneg hx]
  exact ⟨Int.emod_nonneg _ (by omega), Int.emod_lt_of_pos _ (by omega)⟩

theorem law89' (bs : List Int) (p n : Int) (hb : Code bs) (h0 : 0 ≤ p) (hp : p ≤ 1000000000000) (hn : n ≤ 1000000000) : ∃ r, F 89 [.ptr 0 0 0, .int .i64 n] [rdBox bs p] = some (.int .i64 r, [some (rdBox bs (p + 1))]) ∧ 0 ≤ r ∧ (1 ≤ n → r < n) := by
  have u1 : IntKind.i64.wrap (p + 1) = p + 1 := i64w (by omega) (by omega)
  have u2 : IntKind.i64.wrap p = p := i64w (by omega) (by omega)
  have hl := hb.len
  by_cases c1 : n < 1
  · refine ⟨0, F_run fn89 rfl ?_, by omega, by omega⟩
    simp [c89, rdBox, u1, c1]
  by_cases c2 : bs = []
  · subst c2
    refine ⟨0, F_run fn89 rfl ?_, by omega, by omega⟩
    simp [c89, rdBox, u1, c1]
  have hpos : 0 < bs.length := List.length_pos_iff.2 c2
  have c2' : ¬ ((bs.length : Int) = 0) := by omega
  have c1n : ¬ (n = 0) := by omega
  by_cases c3 : p < bs.length
  · obtain ⟨b, hbb⟩ : ∃ b, bs[p.toNat]? = some b := ⟨_, List.getElem?_eq_getElem (by omega)⟩
    obtain ⟨_, hg⟩ := List.getElem?_eq_some_iff.1 hbb
    have hr := hb.byte b (List.mem_of_getElem? hbb)
    have u3 : IntKind.i64.wrap b = b := i64w (by omega) (by omega)
    have ht := tmod_in (x := b) (n := n) (by omega) (by omega)
    have hlt : p.toNat < bs.length := by omega
    refine ⟨b.tmod n, F_run fn89 rfl ?_, ht.1, fun _ => ht.2⟩
    simp [c89, rdBox, u1, u2, c1, c2', c2, c3, c1n, hlt, hg, h0, u3]
  · obtain ⟨i1, hi1⟩ : ∃ i, i = p.tmod bs.length := ⟨_, rfl⟩
    obtain ⟨i2, hi2⟩ : ∃ i, i = (p * 7 + 3).tmod bs.length := ⟨_, rfl⟩
    have k1 := tmod_in (x := p) (n := bs.length) h0 (by omega)
    have k2 := tmod_in (x := p * 7 + 3) (n := bs.length) (by omega) (by omega)
    rw [← hi1] at k1
    rw [← hi2] at k2
    obtain ⟨b1, hb1⟩ : ∃ b, bs[i1.toNat]? = some b := ⟨_, List.getElem?_eq_getElem (by omega)⟩
    obtain ⟨b2, hb2⟩ : ∃ b, bs[i2.toNat]? = some b := ⟨_, List.getElem?_eq_getElem (by omega)⟩
    obtain ⟨_, hg1⟩ := List.getElem?_eq_some_iff.1 hb1
    obtain ⟨_, hg2⟩ := List.getElem?_eq_some_iff.1 hb2
    have r1 := hb.byte b1 (List.mem_of_getElem? hb1)
    have r2 := hb.byte b2 (List.mem_of_getElem? hb2)
    have l1 : i1.toNat < bs.length := by omega
    have l2 : i2.toNat < bs.length := by omega
    have v1 : IntKind.i64.wrap b1 = b1 := i64w (by omega) (by omega)
    have v2 : IntKind.i64.wrap b2 = b2 := i64w (by omega) (by omega)
    have v3 : IntKind.i64.wrap (b1 * 131) = b1 * 131 := i64w (by omega) (by omega)
    have v4 : IntKind.i64.wrap (p * 7) = p * 7 := i64w (by omega) (by omega)
    have v5 : IntKind.i64.wrap (p * 7 + 3) = p * 7 + 3 := i64w (by omega) (by omega)
    have v6 : IntKind.i64.wrap (b2 * 1117) = b2 * 1117 := i64w (by omega) (by omega)
    have v7 : IntKind.i64.wrap (b1 * 131 + b2 * 1117) = b1 * 131 + b2 * 1117 := i64w (by omega) (by omega)
    have v8 : IntKind.i64.wrap (p * 29) = p * 29 := i64w (by omega) (by omega)
    have v9 : IntKind.i64.wrap (b1 * 131 + b2 * 1117 + p * 29) = b1 * 131 + b2 * 1117 + p * 29 := i64w (by omega) (by omega)
    obtain ⟨q, hq⟩ : ∃ q, q = p.tdiv bs.length := ⟨_, rfl⟩
    have hq1 : 0 ≤ q ∧ q ≤ p := by
      rw [hq, Int.tdiv_eq_ediv_of_nonneg h0]
      exact ⟨Int.ediv_nonneg h0 (by omega), Int.ediv_le_self _ h0⟩
    have v10 : IntKind.i64.wrap q = q := i64w (by omega) (by omega)
    have v11 : IntKind.i64.wrap (q * 53) = q * 53 := i64w (by omega) (by omega)
    obtain ⟨x, hx⟩ : ∃ x, x = b1 * 131 + b2 * 1117 + p * 29 + q * 53 := ⟨_, rfl⟩
    have v12 : IntKind.i64.wrap x = x := i64w (by omega) (by omega)
    obtain ⟨y, hy⟩ : ∃ y, y = x.tdiv 64 := ⟨_, rfl⟩
    have hy1 : 0 ≤ y ∧ y ≤ x := by
      rw [hy, Int.tdiv_eq_ediv_of_nonneg (by omega)]
      exact ⟨Int.ediv_nonneg (by omega) (by omega), Int.ediv_le_self _ (by omega)⟩
    have v13 : IntKind.i64.wrap y = y := i64w (by omega) (by omega)
    obtain ⟨z, hz, hz1, hz2⟩ := xor_le (a := x) (b := y) (by omega) (by omega) (by omega) (by omega)
    have ht := tmod_in (x := z) (n := n) hz1 (by omega)
    refine ⟨z.tmod n, F_run fn89 rfl ?_, ht.1, fun _ => ht.2⟩
    simp [c89, rdBox, u1, u2, c1, c2', c2, c3, c1n, ← hi1, ← hi2, k1.1, k2.1, l1, l2, hg1, hg2, v1, v2, v3, v4, v5, v6, v7, v8, v9, ← hq, v10, v11, ← hx, v12, ← hy, v13, hz]

theorem law89 (bs : List Int) (p n : Int) (hb : Code bs) (h0 : 0 ≤ p) (hp : p ≤ 1000000000000) (hn : n ≤ 1000000000) : F 89 [.ptr 0 0 0, .int .i64 n] [rdBox bs p] = some (.int .i64 (pickV bs p n), [some (rdBox bs (p + 1))]) ∧ 0 ≤ pickV bs p n ∧ (1 ≤ n → pickV bs p n < n) := by
  obtain ⟨r, h1, h2⟩ := law89' bs p n hb h0 hp hn
  have : pickV bs p n = r := by unfold pickV; rw [h1]
  rw [this]
  exact ⟨h1, h2⟩

theorem law91 (bs : List Int) (hl : bs.length ≤ 1000000000) : F 91 [.sl .imm 1 (bs.map rowB)] [] = some (.cellp [.sl .imm 1 ((bs.take 2000).map rowB), .int .i64 0], []) := by
  refine F_run fn91 rfl ?_
  by_cases h : 2000 < bs.length
  · have h1 : (2000 : Int) < bs.length := by omega
    have h2 : (2000 : Int) ≤ bs.length := by omega
    simp [c91, h1, h2, slBounds]
  · have h1 : ¬ ((2000 : Int) < bs.length) := by omega
    have h2 : bs.take 2000 = bs := List.take_of_length_le (by omega)
    simp [c91, h1, h2]
end Go.Proofs.YtpiljklnekefoaaGreatDoor

namespace Go.Proofs.YtpiljklnekefoaaGreatDoor
open Go
set_option linter.unusedSimpArgs false
set_option maxRecDepth 100000

def inR (n lo hi : Int) : Bool := decide (lo ≤ n) && decide (n ≤ hi)

@[simp] theorem law85 (n lo hi : Int) : F 85 [.int .i64 n, .int .i64 lo, .int .i64 hi] [] = some (.bool (inR n lo hi), []) := by
  refine F_run fn85 rfl ?_
  simp [c85, inR]
  by_cases h : lo ≤ n <;> simp [h]

@[simp] theorem law102 (n lo hi : Int) : F 102 [.int .i64 n, .int .i64 lo, .int .i64 hi] [] = some (.bool (inR n lo hi), []) := by
  refine F_run fn102 rfl ?_
  simp [c102, inR]
  by_cases h : lo ≤ n <;> simp [h]

def nameByte (b : UInt8) : Bool := decide (33 ≤ (b.toNat : Int)) && decide ((b.toNat : Int) ≤ 126)
def isName (s : ByteArray) : Bool := decide (1 ≤ s.size) && decide (s.size ≤ 20) && s.data.toList.all nameByte

theorem size_toList (s : ByteArray) : s.data.toList.length = s.size := rfl

def head105 (s : ByteArray) (i : Nat) : St := hd [(0, .str s), (13, .int .i64 s.size), (14, .int .i64 i)] [] 0

@[simp] theorem law105 (s : ByteArray) : F 105 [.str s] [] = some (.bool (isName s), []) := by
  refine F_run fn105 rfl ?_
  simp [c105, isName]
  by_cases h1 : 1 ≤ s.size
  · by_cases h2 : s.size ≤ 20
    · have h3 : ¬ (20 < (s.size : Int)) := by omega
      have h4 : 1 ≤ (s.size : Int) := by omega
      simp [h1, h2, h3, h4]
      refine (loop_list s.data.toList (fun i (_ : Unit) => head105 s i) (fun _ _ => True) (fun _ r _ => (.bool (r.all nameByte), [])) (fun acc Y _ => ?_) (fun i a r acc Y ha hi hr _ hY => ?_) () ?_ trivial ?_).trans ?_
      · rw [size_toList]
        simp [head105, c105b0]
      · rw [size_toList] at hi
        have hw : IntKind.i64.wrap ((i : Int) + 1) = (i : Int) + 1 := i64w (by omega) (by omega)
        have ha' : s.data[i]? = some a := by simpa using ha
        obtain ⟨_, ha⟩ := Array.getElem?_eq_some_iff.1 ha'
        simp [head105, c105b0, ha, hi, nameByte]
        by_cases q1 : 33 ≤ (a.toNat : Int)
        · by_cases q2 : (a.toNat : Int) ≤ 126
          · have q3 : ¬ ((a.toNat : Int) < 33) := by omega
            have q4 : ¬ (126 < (a.toNat : Int)) := by omega
            simp [q1, q2, q3, q4]
            rw [hY () _ trivial]
            simp [head105, hw]
          · have q3 : ¬ ((a.toNat : Int) < 33) := by omega
            have q4 : 126 < (a.toNat : Int) := by omega
            simp [q1, q2, q3, q4]
        · have q3 : (a.toNat : Int) < 33 := by omega
          simp [q1, q3]
      · simp [head105]
      · rw [size_toList]; unfold big; omega
      · simp
    · have h3 : 20 < (s.size : Int) := by omega
      have h4 : 1 ≤ (s.size : Int) := by omega
      simp [h1, h2, h3, h4]
  · have h4 : ¬ (1 ≤ (s.size : Int)) := by omega
    simp [h1, h4]

def head101 (s : ByteArray) (i : Nat) : St := hd [(0, .str s), (3, .int .i64 i)] [] 0

@[simp] theorem law101 (s : ByteArray) : F 101 [.str s] [] = some (.bool (isName s), []) := by
  refine F_run fn101 rfl ?_
  simp [c101, isName, inR]
  by_cases h1 : 1 ≤ s.size
  · by_cases h2 : s.size ≤ 20
    · have h3 : ¬ (20 < (s.size : Int)) := by omega
      have h4 : ¬ ((s.size : Int) < 1) := by omega
      simp [h1, h2, h3, h4]
      refine (loop_list s.data.toList (fun i (_ : Unit) => head101 s i) (fun _ _ => True) (fun _ r _ => (.bool (r.all nameByte), [])) (fun acc Y _ => ?_) (fun i a r acc Y ha hi hr _ hY => ?_) () ?_ trivial ?_).trans ?_
      · rw [size_toList]
        simp [head101, c101b0]
      · rw [size_toList] at hi
        have hw : IntKind.i64.wrap ((i : Int) + 1) = (i : Int) + 1 := i64w (by omega) (by omega)
        have ha' : s.data[i]? = some a := by simpa using ha
        obtain ⟨_, ha⟩ := Array.getElem?_eq_some_iff.1 ha'
        simp [head101, c101b0, ha, hi, nameByte]
        by_cases q1 : 33 ≤ (a.toNat : Int)
        · by_cases q2 : (a.toNat : Int) ≤ 126
          · have q3 : ¬ ((a.toNat : Int) < 33) := by omega
            have q4 : ¬ (126 < (a.toNat : Int)) := by omega
            simp [q1, q2, q3, q4]
            rw [hY () _ trivial]
            simp [head101, hw]
          · have q3 : ¬ ((a.toNat : Int) < 33) := by omega
            have q4 : 126 < (a.toNat : Int) := by omega
            simp [q1, q2, q3, q4]
        · have q3 : (a.toNat : Int) < 33 := by omega
          simp [q1, q3]
      · simp [head101]
      · rw [size_toList]; unfold big; omega
      · simp
    · have h3 : 20 < (s.size : Int) := by omega
      simp [h1, h2, h3]
  · have h4 : (s.size : Int) < 1 := by omega
    simp [h1, h4]

def isHold (s : ByteArray) : Bool := isName s && !(sEq s ⟨#[42]⟩)

@[simp] theorem law106 (s : ByteArray) : F 106 [.str s] [] = some (.bool (isHold s), []) := by
  refine F_run fn106 rfl ?_
  simp [c106, isHold]
  cases isName s <;> simp

@[simp] theorem law100 (s : ByteArray) : F 100 [.str s] [] = some (.bool (isHold s), []) := by
  refine F_run fn100 rfl ?_
  simp [c100, isHold]
  cases isName s <;> simp

def wantOk (w : Want) : Bool := isName w.copy && inR w.version 1 1000000 && (sEq w.hold ⟨#[]⟩ || isHold w.hold) && inR w.pull 0 100 && inR w.start 0 100 && inR w.dies 0 100 && inR w.grace 0 100

@[simp] theorem law82 (s : T) (n : Int) (h : T) (n1 n2 n3 n4 : Int) : F 82 [.agg [.str s, .int .i64 n, .str h, .int .i64 n1, .int .i64 n2, .int .i64 n3, .int .i64 n4]] [] = some (.bool (wantOk ⟨s, n, h, n1, n2, n3, n4⟩), []) := by
  refine F_run fn82 rfl ?_
  simp [c82, wantOk]
  repeat' split
  all_goals simp_all

@[simp] theorem law81 (s : T) (n : Int) (h : T) (n1 n2 n3 n4 : Int) : F 81 [.agg [.str s, .int .i64 n, .str h, .int .i64 n1, .int .i64 n2, .int .i64 n3, .int .i64 n4]] [] = some (.bool (wantOk ⟨s, n, h, n1, n2, n3, n4⟩), []) := by
  refine F_run fn81 rfl ?_
  simp [c81, wantOk]
  repeat' split
  all_goals simp_all

/-! ### Wants -/
def ascW (pre : List Want) (w : Want) : Bool :=
  match pre.getLast? with
  | none => true
  | some p => sLt p.copy w.copy
def heldB (pre : List Want) (k : T) : Bool := pre.any fun p => sEq p.hold k
def freshW (pre : List Want) (w : Want) : Bool := sEq w.hold ⟨#[]⟩ || !heldB pre w.hold
def wantsGo (pre : List Want) : List Want → Bool
  | [] => true
  | w :: r => wantOk w && (ascW pre w && (freshW pre w && wantsGo (pre ++ [w]) r))
def wantsOk (ws : List Want) : Bool := decide (ws.length ≤ 10) && wantsGo [] ws

def heldMap (pre : List Want) : ByteArray → Option AV := pre.foldl (fun m w => mapPut w.hold (.bool true) m) noKeys

@[simp] theorem heldMap_get (pre : List Want) (k : ByteArray) : (mapGet k (heldMap pre)).getD (.bool false) = .bool (heldB pre k) := by
  have h : ∀ (l : List Want) (m : ByteArray → Option AV) (b : Bool), (mapGet k m).getD (.bool false) = .bool b → (mapGet k (l.foldl (fun m w => mapPut w.hold (.bool true) m) m)).getD (.bool false) = .bool (b || l.any fun p => sEq p.hold k) := by
    intro l
    induction l with
    | nil => intro m b h; simpa using h
    | cons w l ih =>
      intro m b h
      rw [List.foldl_cons, ih _ (b || sEq w.hold k)]
      · simp [Bool.or_assoc]
      · rw [mapGet_put, sEq_comm w.hold k]
        by_cases h2 : sEq k w.hold = true
        · simp [h2]
        · simp [h2, h]
  have := h pre noKeys false rfl
  rw [Bool.false_or] at this
  exact this

@[simp] theorem heldB_nil (k : T) : heldB [] k = false := rfl
theorem heldMap_snoc (pre : List Want) (w : Want) : heldMap (pre ++ [w]) = mapPut w.hold (.bool true) (heldMap pre) := by simp [heldMap]

def head6 (m : Md) (ws : List Want) (i : Nat) : St := hd [(0, .sl m 7 (ws.map Want.c)), (3, .mapr 0), (7, .sl m 7 (ws.map Want.c)), (8, .int .i64 ws.length), (9, .int .i64 i)] [.map false (heldMap (ws.take i))] 0

theorem take_snoc {α : Type} {xs : List α} {j : Nat} {a : α} (h : xs[j]? = some a) : xs.take (j + 1) = xs.take j ++ [a] := by
  rw [List.take_add_one, h]; rfl

theorem prev {α : Type} {xs : List α} {i : Nat} (hi : i < xs.length) (hm : xs.length ≤ 9223372036854775807) (hp : i ≠ 0) : ∃ j : Nat, 0 < i ∧ IntKind.i64.wrap ((i : Int) - 1) = (j : Int) ∧ ∃ h : j < xs.length, (xs.take i).getLast? = some (xs[j]'h) := by
  obtain ⟨j, rfl⟩ : ∃ j, i = j + 1 := ⟨i - 1, by omega⟩
  refine ⟨j, by omega, ?_, by omega, ?_⟩
  · rw [i64w] <;> omega
  · rw [take_snoc (List.getElem?_eq_getElem (show j < xs.length by omega)), List.getLast?_concat]

theorem law6 (ws : List Want) (hl : ws.length < big) : F 6 [.sl .bor 7 (ws.map Want.c)] [] = some (.bool (wantsOk ws), []) := by
  refine F_run fn6 rfl ?_
  have hm : ws.length ≤ 9223372036854775807 := by unfold big at hl; omega
  simp [c6]
  refine (loop_list ws (fun i (_ : Unit) => head6 .bor ws i) (fun _ _ => True) (fun i r _ => (.bool (decide (ws.length ≤ 10) && wantsGo (ws.take i) r), [])) (fun acc Y _ => ?_) (fun i a r acc Y ha hi hr _ hY => ?_) () ?_ trivial ?_).trans ?_
  · simp [head6, c6b0, wantsGo]
    omega
  · have hw : IntKind.i64.wrap ((i : Int) + 1) = (i : Int) + 1 := i64w (by omega) (by omega)
    obtain ⟨_, hg⟩ := List.getElem?_eq_some_iff.1 ha
    have hs := take_snoc ha
    have hY' : ∀ s', s'.norm [0, 3, 7, 8, 9] = head6 .bor ws (i + 1) → fin [CRes.tmp 2] 0 (Y s') = some (.bool (decide (ws.length ≤ 10) && wantsGo (ws.take i ++ [a]) r), []) := fun s' h => by rw [← hs]; exact hY () s' trivial h
    have hh : heldMap (ws.take (i + 1)) = mapPut a.hold (.bool true) (heldMap (ws.take i)) := by rw [hs, heldMap_snoc]
    by_cases hz : i = 0
    · have hp : ¬ 0 < i := by omega
      have ht : ws.take i = [] := by rw [hz]; rfl
      simp [head6, c6b0, wantsGo, hg, hi, ascW, freshW, hp, ht]
      cases hq : wantOk a <;> cases hr2 : sEq a.hold ⟨#[]⟩ <;> simp [hq, hr2]
      all_goals
        rw [hY' _ (by simp [head6, hw, hh, ht])]
        simp [ht]
    · obtain ⟨j, hp, hw1, hj, hlast⟩ := prev hi hm hz
      simp [head6, c6b0, wantsGo, hg, hi, ascW, freshW, hp, hw1, hj, hlast]
      cases hq : wantOk a <;> cases hr2 : sEq a.hold ⟨#[]⟩ <;> cases hr3 : sLt ws[j].copy a.copy <;> simp [hq, hr2, hr3]
      · cases hr4 : heldB (ws.take i) a.hold
        · simp
          rw [hY' _ (by simp [head6, hw, hh])]
        · simp
      · rw [hY' _ (by simp [head6, hw, hh])]
  · simp [head6, heldMap]
  · exact hl
  · simp [wantsOk]
def head7 (ws : List Want) (i : Nat) : St := hd [(0, .sl .bor 7 (ws.map Want.c)), (3, .int .i64 i)] [] 0
def head7k (ws : List Want) (i k : Nat) : St := hd [(0, .sl .bor 7 (ws.map Want.c)), (3, .int .i64 i), (4, .int .i64 k)] [] 0

theorem law7 (ws : List Want) (hl : ws.length < big) : F 7 [.sl .bor 7 (ws.map Want.c)] [] = some (.bool (wantsOk ws), []) := by
  refine F_run fn7 rfl ?_
  have hm : ws.length ≤ 9223372036854775807 := by unfold big at hl; omega
  simp [c7, wantsOk]
  by_cases h10 : ws.length ≤ 10
  · have h10' : ¬ (10 < (ws.length : Int)) := by omega
    simp [h10, h10']
    refine (loop_list ws (fun i (_ : Unit) => head7 ws i) (fun _ _ => True) (fun i r _ => (.bool (wantsGo (ws.take i) r), [])) (fun acc Y _ => ?_) (fun i a r acc Y ha hi hr _ hY => ?_) () ?_ trivial ?_).trans ?_
    · simp [head7, c7b1, wantsGo]
    · have hw : IntKind.i64.wrap ((i : Int) + 1) = (i : Int) + 1 := i64w (by omega) (by omega)
      obtain ⟨_, hg⟩ := List.getElem?_eq_some_iff.1 ha
      have hs := take_snoc ha
      have hY' : ∀ s', s'.norm [0, 3] = head7 ws (i + 1) → fin [CRes.tmp 2] 0 (Y s') = some (.bool (wantsGo (ws.take i ++ [a]) r), []) := fun s' h => by rw [← hs]; exact hY () s' trivial h
      have inner : ∀ (fs : List Fr) (st : St), st.norm [0, 3, 4] = head7k ws i 0 → fin [CRes.tmp 2] 0 (X F (.code (.loop [0, 3, 4] c7b0) :: .blk 2 :: .blk 1 :: .code (.region [⟨some 12, .mov (.tmp 3), none⟩, ⟨some 13, .bin .add (.tmp 12) (.const (.int .i64 1)), none⟩, ⟨some 3, .mov (.tmp 13), none⟩] [0, 3]) :: .back Y :: fs) (.normal, st)) = some (.bool (freshW (ws.take i) a && wantsGo (ws.take i ++ [a]) r), []) := by
        intro fs st hst
        refine (loop_list (ws.take i) (fun k (_ : Unit) => head7k ws i k) (fun _ _ => True) (fun k t _ => (.bool ((sEq a.hold ⟨#[]⟩ || !heldB t a.hold) && wantsGo (ws.take i ++ [a]) r), [])) (fun acc Z _ => ?_) (fun k b t acc Z hb hk ht _ hZ => ?_) () hst trivial ?_).trans ?_
        · have hlen : (ws.take i).length = i := by simp; omega
          rw [hlen]
          simp [head7k, c7b0]
          exact hY' _ (by simp [head7, hw])
        · have hk2 : k < i := by simp at hk; omega
          have hwk : IntKind.i64.wrap ((k : Int) + 1) = (k : Int) + 1 := i64w (by omega) (by omega)
          have hb2 : ws[k]? = some b := by rw [List.getElem?_take, if_pos hk2] at hb; exact hb
          obtain ⟨hkl, hgb⟩ := List.getElem?_eq_some_iff.1 hb2
          simp [head7k, c7b0, hk2, hi, hg, hkl, hgb]
          cases hr2 : sEq a.hold ⟨#[]⟩ <;> cases hr3 : sEq b.hold a.hold <;> simp [hr2, hr3, heldB]
          all_goals
            rw [hZ () _ trivial (by simp [head7k, hwk])]
            simp [hr2, heldB]
        · simp; unfold big; omega
        · simp [freshW]
      by_cases hz : i = 0
      · have hp : ¬ 0 < i := by omega
        have ht : ws.take i = [] := by rw [hz]; rfl
        simp [head7, c7b1, wantsGo, hg, hi, ascW, hp, ht]
        cases hq : wantOk a <;> simp [hq]
        rw [inner _ _ (by simp [head7k])]
        simp [ht]
      · obtain ⟨j, hp, hw1, hj, hlast⟩ := prev hi hm hz
        simp [head7, c7b1, wantsGo, hg, hi, ascW, hp, hw1, hj, hlast]
        cases hq : wantOk a <;> cases hr3 : sLt ws[j].copy a.copy <;> simp [hq, hr3]
        rw [inner _ _ (by simp [head7k])]
    · simp [head7]
    · exact hl
    · simp
  · have h10' : 10 < (ws.length : Int) := by omega
    simp [h10, h10']
end Go.Proofs.YtpiljklnekefoaaGreatDoor

namespace Go.Proofs.YtpiljklnekefoaaGreatDoor
open Go
set_option linter.unusedSimpArgs false
set_option maxRecDepth 100000

def aliveS (n : Int) : Bool := n == 3 || n == 4 || n == 6
@[simp] theorem aliveS_2 : aliveS 2 = false := rfl
def alive (r : Run) : Bool := aliveS r.state

@[simp] theorem law1 (s : T) (n : Int) (h : T) (n1 n2 n3 n4 m1 m2 m3 m4 : Int) : F 1 [.agg [.str s, .int .i64 n, .str h, .int .i64 n1, .int .i64 n2, .int .i64 n3, .int .i64 n4, .int .i64 m1, .int .i64 m2, .int .i64 m3, .int .i64 m4]] [] = some (.bool (aliveS m1), []) := by
  refine F_run fn1 rfl ?_
  simp [c1, aliveS]
  by_cases h1 : m1 = 3 <;> by_cases h2 : m1 = 4 <;> simp [h1, h2]

@[simp] theorem law2 (s : T) (n : Int) (h : T) (n1 n2 n3 n4 m1 m2 m3 m4 : Int) : F 2 [.agg [.str s, .int .i64 n, .str h, .int .i64 n1, .int .i64 n2, .int .i64 n3, .int .i64 n4, .int .i64 m1, .int .i64 m2, .int .i64 m3, .int .i64 m4]] [] = some (.bool (aliveS m1), []) := by
  refine F_run fn2 rfl ?_
  simp [c2, aliveS]
  by_cases h1 : m1 = 3 <;> by_cases h2 : m1 = 4 <;> simp [h1, h2]

def leasedB (hold : T) (til clock : Int) : Bool := sEq hold ⟨#[]⟩ || decide (IntKind.i64.wrap (clock + 4) ≤ til)
def leased (r : Run) (clock : Int) : Bool := leasedB r.want.hold r.til clock

@[simp] theorem law95 (s : T) (n : Int) (h : T) (n1 n2 n3 n4 m1 m2 m3 m4 c : Int) : F 95 [.agg [.str s, .int .i64 n, .str h, .int .i64 n1, .int .i64 n2, .int .i64 n3, .int .i64 n4, .int .i64 m1, .int .i64 m2, .int .i64 m3, .int .i64 m4], .int .i64 c] [] = some (.bool (leasedB h m4 c), []) := by
  refine F_run fn95 rfl ?_
  simp [c95, leasedB]
  cases h1 : sEq h ⟨#[]⟩ <;> simp [h1]

def runOk (r : Run) (clock : Int) : Bool :=
  wantOk r.want && (inR r.state 1 6 && (inR r.left 0 100 && (!(r.state == 2 && r.left != 0) && (inR r.falls 0 1000 && (inR r.til 0 1000016 && (!(sEq r.want.hold ⟨#[]⟩ && r.til != 0) && (!alive r || leased r clock)))))))

@[simp] theorem law84 (s : T) (n : Int) (h : T) (n1 n2 n3 n4 m1 m2 m3 m4 c : Int) : F 84 [.agg [.str s, .int .i64 n, .str h, .int .i64 n1, .int .i64 n2, .int .i64 n3, .int .i64 n4, .int .i64 m1, .int .i64 m2, .int .i64 m3, .int .i64 m4], .int .i64 c] [] =
    some (.bool (runOk ⟨⟨s, n, h, n1, n2, n3, n4⟩, m1, m2, m3, m4⟩ c), []) := by
  refine F_run fn84 rfl ?_
  simp [c84, runOk, alive, leased]
  cases h1 : wantOk ⟨s, n, h, n1, n2, n3, n4⟩ <;> simp [h1]
  cases h2 : inR m1 1 6 <;> simp [h2]
  cases h3 : inR m2 0 100 <;> simp [h3]
  by_cases h4 : m1 = 2 <;> simp [h4]
  · by_cases h5 : m2 = 0 <;> simp [h5]
    cases h6 : inR m3 0 1000 <;> simp [h6]
    cases h7 : inR m4 0 1000016 <;> simp [h7]
    cases h8 : sEq h ⟨#[]⟩ <;> simp [h8, aliveS]
    by_cases h9 : m4 = 0 <;> simp [h9]
  · cases h6 : inR m3 0 1000 <;> simp [h6]
    cases h7 : inR m4 0 1000016 <;> simp [h7]
    cases h8 : sEq h ⟨#[]⟩ <;> simp [h8]
    · cases h9 : aliveS m1 <;> simp [h9, h4]
    · by_cases h9 : m4 = 0 <;> simp [h9]
      cases h10 : aliveS m1 <;> simp [h10, h4]

def ascR (pre : List Run) (r : Run) : Bool :=
  match pre.getLast? with
  | none => true
  | some p => sLt p.want.copy r.want.copy
def runsGo (clock : Int) (pre : List Run) : List Run → Bool
  | [] => true
  | r :: rs => runOk r clock && (ascR pre r && runsGo clock (pre ++ [r]) rs)
def runsOk (rs : List Run) (clock : Int) : Bool := decide (rs.length ≤ 20) && runsGo clock [] rs

def head12 (rs : List Run) (c : Int) (i : Nat) : St := hd [(0, .sl .bor 11 (rs.map Run.c)), (1, .int .i64 c), (5, .int .i64 i)] [] 0

theorem law12 (rs : List Run) (c : Int) (hl : rs.length < big) : F 12 [.sl .bor 11 (rs.map Run.c), .int .i64 c] [] = some (.bool (runsOk rs c), []) := by
  refine F_run fn12 rfl ?_
  have hm : rs.length ≤ 9223372036854775807 := by unfold big at hl; omega
  simp [c12, runsOk]
  by_cases h20 : rs.length ≤ 20
  · have h20' : ¬ (20 < (rs.length : Int)) := by omega
    simp [h20, h20']
    refine (loop_list rs (fun i (_ : Unit) => head12 rs c i) (fun _ _ => True) (fun i r _ => (.bool (runsGo c (rs.take i) r), [])) (fun acc Y _ => ?_) (fun i a r acc Y ha hi hr _ hY => ?_) () ?_ trivial ?_).trans rfl
    · simp [head12, c12b0, runsGo]
    · have hw : IntKind.i64.wrap ((i : Int) + 1) = (i : Int) + 1 := i64w (by omega) (by omega)
      obtain ⟨_, hg⟩ := List.getElem?_eq_some_iff.1 ha
      have hs := take_snoc ha
      have hY' : ∀ s', s'.norm [0, 1, 5] = head12 rs c (i + 1) → fin [CRes.tmp 4] 0 (Y s') = some (.bool (runsGo c (rs.take i ++ [a]) r), []) := fun s' h => by rw [← hs]; exact hY () s' trivial h
      by_cases hz : i = 0
      · have hp : ¬ 0 < i := by omega
        have ht : rs.take i = [] := by rw [hz]; rfl
        simp [head12, c12b0, runsGo, hg, hi, ascR, hp, ht]
        cases hq : runOk a c <;> simp [hq]
        rw [hY' _ (by simp [head12, hw])]
        simp [ht]
      · obtain ⟨j, hp, hw1, hj, hlast⟩ := prev hi hm hz
        simp [head12, c12b0, runsGo, hg, hi, ascR, hp, hw1, hj, hlast]
        cases hq : runOk a c <;> cases hr3 : sLt rs[j].want.copy a.want.copy <;> simp [hq, hr3]
        rw [hY' _ (by simp [head12, hw])]
    · simp [head12]
    · exact hl
  · have h20' : 20 < (rs.length : Int) := by omega
    simp [h20, h20']

def head11 (rs : List Run) (c : Int) (i : Nat) : St := hd [(0, .sl .bor 11 (rs.map Run.c)), (1, .int .i64 c), (10, .sl .bor 11 (rs.map Run.c)), (11, .int .i64 rs.length), (12, .int .i64 i)] [] 0

theorem law11 (rs : List Run) (c : Int) (hl : rs.length < big) : F 11 [.sl .bor 11 (rs.map Run.c), .int .i64 c] [] = some (.bool (runsOk rs c), []) := by
  refine F_run fn11 rfl ?_
  have hm : rs.length ≤ 9223372036854775807 := by unfold big at hl; omega
  simp [c11, runsOk]
  by_cases h20 : rs.length ≤ 20
  · have h20' : ¬ (20 < (rs.length : Int)) := by omega
    simp [h20, h20']
    refine (loop_list rs (fun i (_ : Unit) => head11 rs c i) (fun _ _ => True) (fun i r _ => (.bool (runsGo c (rs.take i) r), [])) (fun acc Y _ => ?_) (fun i a r acc Y ha hi hr _ hY => ?_) () ?_ trivial ?_).trans rfl
    · simp [head11, c11b0, runsGo]
    · have hw : IntKind.i64.wrap ((i : Int) + 1) = (i : Int) + 1 := i64w (by omega) (by omega)
      obtain ⟨_, hg⟩ := List.getElem?_eq_some_iff.1 ha
      have hs := take_snoc ha
      have hY' : ∀ s', s'.norm [0, 1, 10, 11, 12] = head11 rs c (i + 1) → fin [CRes.tmp 4] 0 (Y s') = some (.bool (runsGo c (rs.take i ++ [a]) r), []) := fun s' h => by rw [← hs]; exact hY () s' trivial h
      by_cases hz : i = 0
      · have hp : ¬ 0 < i := by omega
        have ht : rs.take i = [] := by rw [hz]; rfl
        simp [head11, c11b0, runsGo, hg, hi, ascR, hp, ht, runOk, alive, leased, leasedB]
        cases q1 : wantOk a.want <;> simp [q1]
        cases q2 : inR a.state 1 6 <;> simp [q2]
        cases q3 : inR a.left 0 100 <;> simp [q3]
        cases q5 : inR a.falls 0 1000
        · by_cases h4 : a.state = 2 <;> by_cases h5 : a.left = 0 <;> simp [h4, h5]
        cases q6 : inR a.til 0 1000016
        · by_cases h4 : a.state = 2 <;> by_cases h5 : a.left = 0 <;> simp [h4, h5]
        cases q7 : sEq a.want.hold ⟨#[]⟩ <;> simp
        · by_cases h8 : IntKind.i64.wrap (c + 4) ≤ a.til
          · have h9 : ¬ (a.til < IntKind.i64.wrap (c + 4)) := by omega
            simp [h8, h9]
            by_cases h4 : a.state = 2 <;> by_cases h5 : a.left = 0 <;> simp [h4, h5]
            all_goals
              rw [hY' _ (by simp [head11, hw])]
              simp [ht, h4, h5]
          · have h9 : a.til < IntKind.i64.wrap (c + 4) := by omega
            simp [h8, h9]
            by_cases h4 : a.state = 2 <;> by_cases h5 : a.left = 0 <;> simp [h4, h5]
            · rw [hY' _ (by simp [head11, hw])]
              simp [ht, h4, h5]
            all_goals
              cases q10 : aliveS a.state <;> simp [q10]
              rw [hY' _ (by simp [head11, hw])]
              simp [ht, h4, h5, q10]
        · by_cases h8 : a.til = 0 <;> simp [h8]
          · by_cases h4 : a.state = 2 <;> by_cases h5 : a.left = 0 <;> simp [h4, h5]
            all_goals
              rw [hY' _ (by simp [head11, hw])]
              simp [ht, h4, h5]
      · obtain ⟨j, hp, hw1, hj, hlast⟩ := prev hi hm hz
        simp [head11, c11b0, runsGo, hg, hi, ascR, hp, hw1, hj, hlast, runOk, alive, leased, leasedB]
        cases q1 : wantOk a.want <;> simp [q1]
        cases hr3 : sLt rs[j].want.copy a.want.copy <;> simp [hr3]
        cases q2 : inR a.state 1 6 <;> simp [q2]
        cases q3 : inR a.left 0 100 <;> simp [q3]
        cases q5 : inR a.falls 0 1000
        · by_cases h4 : a.state = 2 <;> by_cases h5 : a.left = 0 <;> simp [h4, h5]
        cases q6 : inR a.til 0 1000016
        · by_cases h4 : a.state = 2 <;> by_cases h5 : a.left = 0 <;> simp [h4, h5]
        cases q7 : sEq a.want.hold ⟨#[]⟩ <;> simp
        · by_cases h8 : IntKind.i64.wrap (c + 4) ≤ a.til
          · have h9 : ¬ (a.til < IntKind.i64.wrap (c + 4)) := by omega
            simp [h8, h9]
            by_cases h4 : a.state = 2 <;> by_cases h5 : a.left = 0 <;> simp [h4, h5]
            all_goals
              rw [hY' _ (by simp [head11, hw])]
              try simp [h4, h5]
          · have h9 : a.til < IntKind.i64.wrap (c + 4) := by omega
            simp [h8, h9]
            by_cases h4 : a.state = 2 <;> by_cases h5 : a.left = 0 <;> simp [h4, h5]
            · rw [hY' _ (by simp [head11, hw])]
              try simp [h4, h5]
            all_goals
              cases q10 : aliveS a.state <;> simp [q10]
              rw [hY' _ (by simp [head11, hw])]
              try simp [h4, h5, q10]
        · by_cases h8 : a.til = 0 <;> simp [h8]
          · by_cases h4 : a.state = 2 <;> by_cases h5 : a.left = 0 <;> simp [h4, h5]
            all_goals
              rw [hY' _ (by simp [head11, hw])]
              try simp [h4, h5]
    · simp [head11]
    · exact hl
  · have h20' : 20 < (rs.length : Int) := by omega
    simp [h20, h20']
end Go.Proofs.YtpiljklnekefoaaGreatDoor

namespace Go.Proofs.YtpiljklnekefoaaGreatDoor
open Go
set_option linter.unusedSimpArgs false
set_option maxRecDepth 100000

def askAtGo (h : T) : List Ask → Nat → Int
  | [], _ => -1
  | a :: r, i => if sEq a.hold h then i else askAtGo h r (i + 1)
def askAt (l : List Ask) (h : T) : Int := askAtGo h l 0

def head113 (l : List Ask) (h : T) (i : Nat) : St := hd [(1, .str h), (7, .sl .bor 4 (l.map Ask.c)), (8, .int .i64 l.length), (9, .int .i64 i)] [] 0

theorem law113 (l : List Ask) (h : T) (hl : l.length ≤ 1048576) : F 113 [.sl .bor 4 (l.map Ask.c), .str h] [] = some (.int .i64 (askAt l h), []) := by
  refine F_run fn113 rfl ?_
  simp [c113, askAt]
  refine (loop_list l (fun i (_ : Unit) => head113 l h i) (fun _ _ => True) (fun i r _ => (.int .i64 (askAtGo h r i), [])) (fun acc Y _ => ?_) (fun i a r acc Y ha hi hr _ hY => ?_) () ?_ trivial ?_).trans rfl
  · simp [head113, c113b0, askAtGo]
  · have hw : IntKind.i64.wrap ((i : Int) + 1) = (i : Int) + 1 := i64w (by omega) (by omega)
    obtain ⟨_, hg⟩ := List.getElem?_eq_some_iff.1 ha
    simp [head113, c113b0, askAtGo, hi, hg]
    cases q : sEq a.hold h <;> simp
    rw [hY () _ trivial (by simp [head113, hw])]
  · simp [head113]
  · unfold big; omega

def head110 (l : List Ask) (h : T) (i : Nat) : St := hd [(0, .sl .bor 4 (l.map Ask.c)), (1, .str h), (5, .int .i64 i)] [] 0

theorem law110 (l : List Ask) (h : T) (hl : l.length ≤ 1048576) : F 110 [.sl .bor 4 (l.map Ask.c), .str h] [] = some (.int .i64 (askAt l h), []) := by
  refine F_run fn110 rfl ?_
  simp [c110, askAt]
  refine (loop_list l (fun i (_ : Unit) => head110 l h i) (fun _ _ => True) (fun i r _ => (.int .i64 (askAtGo h r i), [])) (fun acc Y _ => ?_) (fun i a r acc Y ha hi hr _ hY => ?_) () ?_ trivial ?_).trans rfl
  · simp [head110, c110b0, askAtGo]
  · have hw : IntKind.i64.wrap ((i : Int) + 1) = (i : Int) + 1 := i64w (by omega) (by omega)
    obtain ⟨_, hg⟩ := List.getElem?_eq_some_iff.1 ha
    simp [head110, c110b0, askAtGo, hi, hg]
    cases q : sEq a.hold h <;> simp
    rw [hY () _ trivial (by simp [head110, hw])]
  · simp [head110]
  · unfold big; omega

def askOk (c : Int) (a : Ask) : Bool := isHold a.hold && (isName a.copy && (decide (0 ≤ a.first) && (decide (a.first ≤ a.at_) && decide (a.at_ ≤ c))))
def ascA (pre : List Ask) (a : Ask) : Bool :=
  match pre.getLast? with
  | none => true
  | some p => sLt p.hold a.hold
def asksGo (c : Int) (pre : List Ask) : List Ask → Bool
  | [] => true
  | a :: r => askOk c a && (ascA pre a && asksGo c (pre ++ [a]) r)
def asksOk (l : List Ask) (c : Int) : Bool := decide (l.length ≤ 40) && asksGo c [] l

def head114 (l : List Ask) (c : Int) (i : Nat) : St := hd [(0, .sl .bor 4 (l.map Ask.c)), (1, .int .i64 c), (7, .sl .bor 4 (l.map Ask.c)), (8, .int .i64 l.length), (9, .int .i64 i)] [] 0

theorem law114 (l : List Ask) (c : Int) (hl : l.length ≤ 1048576) : F 114 [.sl .bor 4 (l.map Ask.c), .int .i64 c] [] = some (.bool (asksOk l c), []) := by
  refine F_run fn114 rfl ?_
  have hm : l.length ≤ 9223372036854775807 := by omega
  simp [c114, asksOk]
  refine (loop_list l (fun i (_ : Unit) => head114 l c i) (fun _ _ => True) (fun i r _ => (.bool (decide (l.length ≤ 40) && asksGo c (l.take i) r), [])) (fun acc Y _ => ?_) (fun i a r acc Y ha hi hr _ hY => ?_) () ?_ trivial ?_).trans rfl
  · simp [head114, c114b0, asksGo]
    omega
  · have hw : IntKind.i64.wrap ((i : Int) + 1) = (i : Int) + 1 := i64w (by omega) (by omega)
    obtain ⟨_, hg⟩ := List.getElem?_eq_some_iff.1 ha
    have hs := take_snoc ha
    have hY' : ∀ s', s'.norm [0, 1, 7, 8, 9] = head114 l c (i + 1) → fin [CRes.tmp 4] 0 (Y s') = some (.bool (decide (l.length ≤ 40) && asksGo c (l.take i ++ [a]) r), []) := fun s' h => by rw [← hs]; exact hY () s' trivial h
    by_cases hz : i = 0
    · have hp : ¬ 0 < i := by omega
      have ht : l.take i = [] := by rw [hz]; rfl
      simp [head114, c114b0, asksGo, hg, hi, ascA, hp, ht, askOk]
      cases q1 : isHold a.hold <;> simp
      cases q2 : isName a.copy <;> simp
      rcases Int.lt_or_le a.first 0 with h | h
      · have h' : ¬ (0 ≤ a.first) := by omega
        simp [h, h']
      have h' : ¬ (a.first < 0) := by omega
      simp [h, h']
      rcases Int.lt_or_le a.at_ a.first with h2 | h2
      · have h2' : ¬ (a.first ≤ a.at_) := by omega
        simp [h2, h2']
      have h2' : ¬ (a.at_ < a.first) := by omega
      simp [h2, h2']
      rcases Int.lt_or_le c a.at_ with h3 | h3
      · have h3' : ¬ (a.at_ ≤ c) := by omega
        simp [h3, h3']
      have h3' : ¬ (c < a.at_) := by omega
      simp [h3, h3']
      rw [hY' _ (by simp [head114, hw])]
      simp [ht]
    · obtain ⟨j, hp, hw1, hj, hlast⟩ := prev hi hm hz
      simp [head114, c114b0, asksGo, hg, hi, ascA, hp, hw1, hj, hlast, askOk]
      cases q1 : isHold a.hold <;> simp
      cases q2 : isName a.copy <;> simp
      cases q3 : sLt l[j].hold a.hold <;> simp
      rcases Int.lt_or_le a.first 0 with h | h
      · have h' : ¬ (0 ≤ a.first) := by omega
        simp [h, h']
      have h' : ¬ (a.first < 0) := by omega
      simp [h, h']
      rcases Int.lt_or_le a.at_ a.first with h2 | h2
      · have h2' : ¬ (a.first ≤ a.at_) := by omega
        simp [h2, h2']
      have h2' : ¬ (a.at_ < a.first) := by omega
      simp [h2, h2']
      rcases Int.lt_or_le c a.at_ with h3 | h3
      · have h3' : ¬ (a.at_ ≤ c) := by omega
        simp [h3, h3']
      have h3' : ¬ (c < a.at_) := by omega
      simp [h3, h3']
      rw [hY' _ (by simp [head114, hw])]
  · simp [head114]
  · unfold big; omega

def head111 (l : List Ask) (c : Int) (i : Nat) : St := hd [(0, .sl .bor 4 (l.map Ask.c)), (1, .int .i64 c), (5, .int .i64 i)] [] 0

theorem law111 (l : List Ask) (c : Int) (hl : l.length ≤ 1048576) : F 111 [.sl .bor 4 (l.map Ask.c), .int .i64 c] [] = some (.bool (asksOk l c), []) := by
  refine F_run fn111 rfl ?_
  have hm : l.length ≤ 9223372036854775807 := by omega
  simp [c111, asksOk]
  by_cases h40 : l.length ≤ 40
  · have h40' : ¬ (40 < (l.length : Int)) := by omega
    simp [h40, h40']
    refine (loop_list l (fun i (_ : Unit) => head111 l c i) (fun _ _ => True) (fun i r _ => (.bool (asksGo c (l.take i) r), [])) (fun acc Y _ => ?_) (fun i a r acc Y ha hi hr _ hY => ?_) () ?_ trivial ?_).trans rfl
    · simp [head111, c111b0, asksGo]
    · have hw : IntKind.i64.wrap ((i : Int) + 1) = (i : Int) + 1 := i64w (by omega) (by omega)
      obtain ⟨_, hg⟩ := List.getElem?_eq_some_iff.1 ha
      have hs := take_snoc ha
      have hY' : ∀ s', s'.norm [0, 1, 5] = head111 l c (i + 1) → fin [CRes.tmp 4] 0 (Y s') = some (.bool (asksGo c (l.take i ++ [a]) r), []) := fun s' h => by rw [← hs]; exact hY () s' trivial h
      have q4 : ∀ b : Bool, (askOk c a && b) = (isHold a.hold && (isName a.copy && (inR a.at_ 0 c && (inR a.first 0 a.at_ && b)))) := fun b => by
        unfold askOk inR
        cases isHold a.hold <;> cases isName a.copy <;> simp
        by_cases h1 : 0 ≤ a.first <;> by_cases h2 : a.first ≤ a.at_ <;> by_cases h3 : a.at_ ≤ c <;> simp [h1, h2, h3]
        omega
      by_cases hz : i = 0
      · have hp : ¬ 0 < i := by omega
        have ht : l.take i = [] := by rw [hz]; rfl
        simp [head111, c111b0, asksGo, hg, hi, ascA, hp, ht, q4]
        cases q1 : isHold a.hold <;> simp
        cases q2 : isName a.copy <;> simp
        cases q5 : inR a.at_ 0 c <;> simp
        cases q6 : inR a.first 0 a.at_ <;> simp
        rw [hY' _ (by simp [head111, hw])]
        simp [ht]
      · obtain ⟨j, hp, hw1, hj, hlast⟩ := prev hi hm hz
        simp [head111, c111b0, asksGo, hg, hi, ascA, hp, hw1, hj, hlast, q4]
        cases q1 : isHold a.hold <;> simp
        cases q2 : isName a.copy <;> simp
        cases q5 : inR a.at_ 0 c <;> simp
        cases q6 : inR a.first 0 a.at_ <;> simp
        cases q3 : sLt l[j].hold a.hold <;> simp
        rw [hY' _ (by simp [head111, hw])]
    · simp [head111]
    · unfold big; omega
  · have h40' : 40 < (l.length : Int) := by omega
    simp [h40, h40']

structure Mate.small (m : Mate) : Prop where
  wants : m.wants.length ≤ 1048576
  runs : m.runs.length ≤ 1048576
  asks : m.asks.length ≤ 1048576
  gives : m.gives.length ≤ 1048576

def mateParts (m : Mate) : Bool :=
  isName m.name && (inR m.clock 0 1000000 && (inR m.seen 0 1000000 && (wantsOk m.wants && ((m.known || m.wants.isEmpty) && (runsOk m.runs m.clock && (asksOk m.asks m.clock && asksOk m.gives m.clock))))))
def apartGo (gives : List Ask) (l : List Ask) : Bool := l.all fun a => decide (askAt gives a.hold < 0)
def downRuns (l : List Run) : Bool := l.all fun r => alive r || !sEq r.want.hold ⟨#[]⟩
def mateDown (m : Mate) : Bool := !m.known && ((m.asks.isEmpty && m.gives.isEmpty) && (m.seen == 0 && downRuns m.runs))
def mateValid (m : Mate) : Bool := mateParts m && (apartGo m.gives m.asks && (m.up || mateDown m))

def head28a (m : Mate) (i : Nat) : St := hd [(1, .ptr 0 0 0), (65, .sl .bor 4 (m.asks.map Ask.c)), (66, .int .i64 m.asks.length), (67, .int .i64 i)] [.box (m.c .bor)] 0
def head28b (m : Mate) (i : Nat) : St := hd [(99, .sl .bor 11 (m.runs.map Run.c)), (100, .int .i64 m.runs.length), (101, .int .i64 i)] [] 0

theorem law28 (m : Mate) (hm : m.small) : F 28 [.agg (m.c .bor)] [] = some (.bool (mateValid m), []) := by
  refine F_run fn28 rfl ?_
  have hr := hm.runs
  have ha := hm.asks
  have l6 := law6 m.wants (by unfold big; have := hm.wants; omega)
  have l11 := law11 m.runs m.clock (by unfold big; omega)
  have l114a := law114 m.asks m.clock hm.asks
  have l114g := law114 m.gives m.clock hm.gives
  simp [c28, mateValid, mateParts, l6, l11, l114a, l114g]
  cases q1 : isName m.name <;> simp
  cases q2 : inR m.clock 0 1000000 <;> simp
  cases q3 : inR m.seen 0 1000000 <;> simp
  cases q4 : wantsOk m.wants <;> simp
  have q5 : (m.known = false ∧ m.wants ≠ []) ∨ (m.known = false ∧ m.wants = []) ∨ (m.known = true ∧ (m.wants = [] ∨ m.wants ≠ [])) := by
    cases m.known <;> by_cases q6 : m.wants = [] <;> simp [q6]
  rcases q5 with ⟨q5, q6⟩ | ⟨q5, q6⟩ | ⟨q5, q6⟩
  · simp [q5, q6]
  all_goals
    simp [q5, q6]
    cases q7 : runsOk m.runs m.clock <;> simp
    cases q8 : asksOk m.asks m.clock <;> simp
    cases q9 : asksOk m.gives m.clock <;> simp
    refine (loop_list m.asks (fun i (_ : Unit) => head28a m i) (fun _ _ => True) (fun _ r _ => (.bool (apartGo m.gives r && (m.up || mateDown m)), [])) (fun acc Y _ => ?_) (fun i a r acc Y ha hi hr _ hY => ?_) () ?_ trivial ?_).trans ?_
    · simp [head28a, c28b0, apartGo, q5]
      cases q10 : m.up <;> simp [mateDown, q5]
      try
        have hsum : IntKind.i64.wrap ((m.asks.length : Int) + m.gives.length) = (m.asks.length : Int) + m.gives.length := i64w (by omega) (by have := hm.gives; omega)
        rw [hsum]
        by_cases e1 : m.asks = [] ∧ m.gives = []
        · obtain ⟨e1, e2⟩ := e1
          simp [e1, e2]
          by_cases e3 : m.seen = 0 <;> simp [e3]
          refine (loop_list m.runs (fun i (_ : Unit) => head28b m i) (fun _ _ => True) (fun _ r _ => (.bool (downRuns r), [])) (fun acc Y _ => ?_) (fun i a r acc Y ha hi hr _ hY => ?_) () ?_ trivial ?_).trans ?_
          · simp [head28b, c28b1, downRuns]
          · have hw : IntKind.i64.wrap ((i : Int) + 1) = (i : Int) + 1 := i64w (by omega) (by omega)
            obtain ⟨_, hg⟩ := List.getElem?_eq_some_iff.1 ha
            simp [head28b, c28b1, downRuns, hi, hg, alive]
            cases q11 : aliveS a.state <;> cases q12 : sEq a.want.hold ⟨#[]⟩ <;> simp
            all_goals
              rw [hY () _ trivial (by simp [head28b, hw])]
              simp [downRuns, alive]
          · simp [head28b]
          · unfold big; omega
          · simp
        · have e2 : ¬ ((m.asks.length : Int) + m.gives.length ≤ 0) := by
            intro h
            apply e1
            constructor
            · exact List.length_eq_zero_iff.1 (by omega)
            · exact List.length_eq_zero_iff.1 (by omega)
          simp [e2]
          intro h1 h2
          exact absurd ⟨h1, h2⟩ e1
    · have hw : IntKind.i64.wrap ((i : Int) + 1) = (i : Int) + 1 := i64w (by omega) (by omega)
      obtain ⟨_, hg⟩ := List.getElem?_eq_some_iff.1 ha
      have l113 := law113 m.gives a.hold hm.gives
      simp [head28a, c28b0, apartGo, hi, hg, l113]
      rcases Int.lt_or_le (askAt m.gives a.hold) 0 with h | h
      · have h' : ¬ (0 ≤ askAt m.gives a.hold) := by omega
        simp [h, h']
        rw [hY () _ trivial (by simp [head28a, hw])]
        simp [apartGo]
      · have h' : ¬ (askAt m.gives a.hold < 0) := by omega
        simp [h, h']
    · simp [head28a, q5, q6]
    · unfold big; omega
    · simp [apartGo, q5]

def head29a (m : Mate) (i : Nat) : St := hd [(1, .ptr 0 0 0), (3, .int .i64 i)] [.box (m.c .bor)] 0
def head29b (m : Mate) (i : Nat) : St := hd [(1, .ptr 0 0 0), (4, .int .i64 i)] [.box (m.c .bor)] 0

theorem law29 (m : Mate) (hm : m.small) : F 29 [.agg (m.c .bor)] [] = some (.bool (mateValid m), []) := by
  refine F_run fn29 rfl ?_
  have hr := hm.runs
  have ha := hm.asks
  have l6 := law7 m.wants (by unfold big; have := hm.wants; omega)
  have l11 := law12 m.runs m.clock (by unfold big; omega)
  have l114a := law111 m.asks m.clock hm.asks
  have l114g := law111 m.gives m.clock hm.gives
  simp [c29, mateValid, mateParts, l6, l11, l114a, l114g]
  cases q1 : isName m.name <;> simp
  cases q2 : inR m.clock 0 1000000 <;> simp
  cases q3 : inR m.seen 0 1000000 <;> simp
  cases q4 : wantsOk m.wants <;> simp
  have q5' : (m.known = false ∧ m.wants ≠ []) ∨ (m.known = false ∧ m.wants = []) ∨ (m.known = true ∧ m.wants = []) ∨ (m.known = true ∧ m.wants ≠ []) := by
    cases m.known <;> by_cases q6 : m.wants = [] <;> simp [q6]
  rcases q5' with ⟨q5, q6⟩ | ⟨q5, q6⟩ | ⟨q5, q6⟩ | ⟨q5, q6⟩
  · simp [q5, q6, List.length_pos_iff]
  all_goals
    simp [q5, q6, List.length_pos_iff]
    cases q7 : runsOk m.runs m.clock <;> simp
    cases q8 : asksOk m.asks m.clock <;> simp
    cases q9 : asksOk m.gives m.clock <;> simp
    refine (loop_list m.asks (fun i (_ : Unit) => head29a m i) (fun _ _ => True) (fun _ r _ => (.bool (apartGo m.gives r && (m.up || mateDown m)), [])) (fun acc Y _ => ?_) (fun i a r acc Y ha hi hr _ hY => ?_) () ?_ trivial ?_).trans ?_
    · simp [head29a, c29b0, apartGo]
      cases q10 : m.up <;> simp
      refine (loop_list m.runs (fun i (_ : Unit) => head29b m i) (fun _ _ => True) (fun _ r _ => (.bool (!m.known && ((m.asks.isEmpty && m.gives.isEmpty) && (m.seen == 0 && downRuns r))), [])) (fun acc Y _ => ?_) (fun i a r acc Y ha hi hr _ hY => ?_) () ?_ trivial ?_).trans ?_
      · have hsum : IntKind.i64.wrap ((m.asks.length : Int) + m.gives.length) = (m.asks.length : Int) + m.gives.length := i64w (by omega) (by have := hm.gives; omega)
        have hemp : (((m.asks.length : Int) + m.gives.length) == 0) = (m.asks.isEmpty && m.gives.isEmpty) := by
          cases h1 : m.asks <;> cases h2 : m.gives <;> simp
          all_goals omega
        simp [head29b, c29b1, downRuns, q5, hsum, hemp]
        try
          by_cases e3 : m.seen = 0 <;> simp [e3]
      · have hw : IntKind.i64.wrap ((i : Int) + 1) = (i : Int) + 1 := i64w (by omega) (by omega)
        obtain ⟨_, hg⟩ := List.getElem?_eq_some_iff.1 ha
        simp [head29b, c29b1, downRuns, hi, hg, alive]
        cases q11 : aliveS a.state <;> cases q12 : sEq a.want.hold ⟨#[]⟩ <;> simp
        all_goals
          rw [hY () _ trivial (by simp [head29b, hw])]
          simp [downRuns, alive]
      · simp [head29b, q5, q6, q10]
      · unfold big; omega
      · simp [mateDown]
    · have hw : IntKind.i64.wrap ((i : Int) + 1) = (i : Int) + 1 := i64w (by omega) (by omega)
      obtain ⟨_, hg⟩ := List.getElem?_eq_some_iff.1 ha
      have l113 := law110 m.gives a.hold hm.gives
      simp [head29a, c29b0, apartGo, hi, hg, l113]
      rcases Int.lt_or_le (askAt m.gives a.hold) 0 with h | h
      · have h' : ¬ (0 ≤ askAt m.gives a.hold) := by omega
        simp [h, h']
        rw [hY () _ trivial (by simp [head29a, hw])]
        simp [apartGo]
      · have h' : ¬ (askAt m.gives a.hold < 0) := by omega
        simp [h, h']
    · simp [head29a, q5, q6]
    · unfold big; omega
    · simp [apartGo, q5]
end Go.Proofs.YtpiljklnekefoaaGreatDoor

namespace Go.Proofs.YtpiljklnekefoaaGreatDoor
open Go
set_option linter.unusedSimpArgs false
set_option maxRecDepth 100000

def grantOk (t : Int) (g : Grant) : Bool := isHold g.hold && (isName g.berth && (isName g.copy && (inR g.at_ 0 1000000 && inR g.til 0 (IntKind.i64.wrap (t + 32)))))
def ascG (pre : List Grant) (g : Grant) : Bool :=
  match pre.getLast? with
  | none => true
  | some p => sLt p.hold g.hold
def grantsGo (t : Int) (pre : List Grant) : List Grant → Bool
  | [] => true
  | g :: r => grantOk t g && (ascG pre g && grantsGo t (pre ++ [g]) r)
def ascP (pre : List Place) (p : Place) : Bool :=
  match pre.getLast? with
  | none => true
  | some q => sLt q.berth p.berth
def heldIn (pre : List Place) (k : T) : Bool := heldB (pre.flatMap Place.wants) k
def freshP (pre : List Place) (p : Place) : Bool := p.wants.all fun w => sEq w.hold ⟨#[]⟩ || !heldIn pre w.hold
def placeOk (p : Place) : Bool := isName p.berth && (inR p.seen 1 1000000 && wantsOk p.wants)
def placesGo (pre : List Place) : List Place → Bool
  | [] => true
  | p :: r => placeOk p && (ascP pre p && (freshP pre p && placesGo (pre ++ [p]) r))
def landOk (l : Land) : Bool :=
  inR l.time 0 2000000 && (decide (l.time.tmod 2 = 0) && (decide (l.grants.length ≤ 40) && (decide (l.places.length ≤ 4) && (grantsGo l.time [] l.grants && placesGo [] l.places))))

structure Place.small (p : Place) : Prop where
  wants : p.wants.length ≤ 1048576
structure Land.small (l : Land) : Prop where
  grants : l.grants.length ≤ 1048576
  places : l.places.length ≤ 1048576
  each : ∀ p ∈ l.places, p.small

end Go.Proofs.YtpiljklnekefoaaGreatDoor

namespace Go.Proofs.YtpiljklnekefoaaGreatDoor
open Go
set_option linter.unusedSimpArgs false
set_option maxRecDepth 100000

def ascM (pre : List Mate) (m : Mate) : Bool :=
  match pre.getLast? with
  | none => true
  | some p => sLt p.name m.name
def matesGo (pre : List Mate) : List Mate → Bool
  | [] => true
  | m :: r => mateValid m && (ascM pre m && matesGo (pre ++ [m]) r)
def worldOk (w : Wld) : Bool := landOk w.land && (decide (1 ≤ w.mates.length) && (decide (w.mates.length ≤ 4) && (decide (w.flight.length ≤ 300) && matesGo [] w.mates)))

structure Wld.small (w : Wld) : Prop where
  land : w.land.small
  mates : w.mates.length ≤ 1048576
  each : ∀ m ∈ w.mates, m.small
  flight : w.flight.length ≤ 1048576

@[simp] def Wld.cc (m ml mt : Md) (w : Wld) : List AV := [.int .i64 w.land.time, .sl m 5 (w.land.grants.map Grant.c), .sl m 3 (w.land.places.map (Place.c ml)), .sl m 9 (w.mates.map (Mate.c mt)), .sl m 1 (w.flight.map fun s => [.str s])]

end Go.Proofs.YtpiljklnekefoaaGreatDoor

namespace Go.Proofs.YtpiljklnekefoaaGreatDoor
open Go
set_option linter.unusedSimpArgs false
set_option maxRecDepth 100000

def wd (c : Int) (r : Run) : Run := if alive r && !leased r c then { r with state := 2, left := 0 } else r

def ownV (sz : Nat) (xs : List (List AV)) : AV := match xs with
  | [] => .sl .own sz []
  | _ => .ref 0
def ownH (sz : Nat) (xs : List (List AV)) : List AO := match xs with
  | [] => []
  | xs => [.arr sz xs]
@[simp] theorem ownV_nil (sz : Nat) : ownV sz [] = .sl .own sz [] := rfl
@[simp] theorem ownH_nil (sz : Nat) : ownH sz [] = [] := rfl
@[simp] theorem ownV_cons (sz : Nat) (x : List AV) (xs : List (List AV)) : ownV sz (x :: xs) = .ref 0 := rfl
@[simp] theorem ownH_cons (sz : Nat) (x : List AV) (xs : List (List AV)) : ownH sz (x :: xs) = [.arr sz (x :: xs)] := rfl
@[simp] theorem ownV_snoc (sz : Nat) (x : List AV) (xs : List (List AV)) : ownV sz (xs ++ [x]) = .ref 0 := by cases xs <;> rfl
@[simp] theorem ownH_snoc (sz : Nat) (x : List AV) (xs : List (List AV)) : ownH sz (xs ++ [x]) = [.arr sz (xs ++ [x])] := by cases xs <;> rfl

def head18 (rs : List Run) (c : Int) (i : Nat) (acc : List Run) : St := hd [(1, .int .i64 c), (5, ownV 11 (acc.map Run.c)), (8, .sl .bor 11 (rs.map Run.c)), (9, .int .i64 rs.length), (10, .int .i64 i)] (ownH 11 (acc.map Run.c)) 0

theorem law18 (rs : List Run) (c : Int) (hl : rs.length ≤ 1048576) : F 18 [.sl .bor 11 (rs.map Run.c), .int .i64 c] [] = some (.sl .own 11 ((rs.map (wd c)).map Run.c), []) := by
  refine F_run fn18 rfl ?_
  simp [c18]
  refine (loop_list rs (fun i (acc : List Run) => head18 rs c i acc) (fun i acc => acc.length = i) (fun _ r acc => (.sl .own 11 ((acc ++ r.map (wd c)).map Run.c), [])) (fun acc Y hacc => ?_) (fun i a r acc Y ha hi hr hacc hY => ?_) [] ?_ rfl ?_).trans ?_
  · rcases acc with _ | ⟨b, acc⟩
    · simp [head18, c18b0]
    · simp [head18, c18b0]
  · have hw : IntKind.i64.wrap ((i : Int) + 1) = (i : Int) + 1 := i64w (by omega) (by omega)
    obtain ⟨_, hg⟩ := List.getElem?_eq_some_iff.1 ha
    have hb1 : ((acc.length : Int) + 1) * 104 ≤ 140737488355328 := by omega
    have hb2 : (acc.length : Int) + 1 ≤ 140737488355328 := by omega
    have hb3 : (acc.length + 1) * 104 ≤ 140737488355328 := by omega
    have hb4 : acc.length + 1 ≤ 140737488355328 := by omega
    have hfin : ∀ x : Run, wd c a = x → ∀ s' : St, s'.norm [1, 5, 8, 9, 10] = head18 rs c (i + 1) (acc ++ [x]) → fin [CRes.tmp 4] 0 (Y s') = some (.sl .own 11 ((acc ++ (wd c a :: r.map (wd c))).map Run.c), []) := fun x hx s' h => by
      rw [hY _ s' (by simp [hacc]) h, ← hx]; simp
    rcases acc with _ | ⟨b, acc⟩
    · simp [head18, c18b0, hi, hg, rowsPlain, takeRows]
      cases q1 : aliveS a.state <;> simp
      · exact (hfin a (by simp [wd, alive, q1]) _ (by simp [head18, hw])).trans (by simp)
      cases q2 : sEq a.want.hold ⟨#[]⟩ <;> simp
      · by_cases q3 : a.til < IntKind.i64.wrap (c + 4)
        · have q4 : ¬ (IntKind.i64.wrap (c + 4) ≤ a.til) := by omega
          simp [q3]
          exact (hfin { a with state := 2, left := 0 } (by simp [wd, alive, leased, leasedB, q1, q2, q4]) _ (by simp [head18, hw])).trans (by simp)
        · have q4 : IntKind.i64.wrap (c + 4) ≤ a.til := by omega
          simp [q3]
          exact (hfin a (by simp [wd, alive, leased, leasedB, q1, q2, q4]) _ (by simp [head18, hw])).trans (by simp)
      · exact (hfin a (by simp [wd, alive, leased, leasedB, q1, q2]) _ (by simp [head18, hw])).trans (by simp)
    · simp only [List.length_cons] at hb3 hb4
      simp [head18, c18b0, hi, hg, rowsPlain, takeRows, hb3, hb4]
      cases q1 : aliveS a.state <;> simp
      · exact (hfin a (by simp [wd, alive, q1]) _ (by simp [head18, hw])).trans (by simp)
      cases q2 : sEq a.want.hold ⟨#[]⟩ <;> simp
      · by_cases q3 : a.til < IntKind.i64.wrap (c + 4)
        · have q4 : ¬ (IntKind.i64.wrap (c + 4) ≤ a.til) := by omega
          simp [q3]
          exact (hfin { a with state := 2, left := 0 } (by simp [wd, alive, leased, leasedB, q1, q2, q4]) _ (by simp [head18, hw])).trans (by simp)
        · have q4 : IntKind.i64.wrap (c + 4) ≤ a.til := by omega
          simp [q3]
          exact (hfin a (by simp [wd, alive, leased, leasedB, q1, q2, q4]) _ (by simp [head18, hw])).trans (by simp)
      · exact (hfin a (by simp [wd, alive, leased, leasedB, q1, q2]) _ (by simp [head18, hw])).trans (by simp)
  · simp [head18]
  · unfold big; omega
  · simp

def head20 (rs : List Run) (c : Int) (i : Nat) (acc : List Run) : St := hd [(0, .sl .bor 11 (rs.map Run.c)), (1, .int .i64 c), (5, .ref 0), (6, .int .i64 i)] [.arr 11 (acc.map Run.c)] 0

theorem law20 (rs : List Run) (c : Int) (hl : rs.length ≤ 1048576) : F 20 [.sl .bor 11 (rs.map Run.c), .int .i64 c] [] = some (.sl .own 11 ((rs.map (wd c)).map Run.c), []) := by
  refine F_run fn20 rfl ?_
  simp [c20]
  refine (loop_list rs (fun i (acc : List Run) => head20 rs c i acc) (fun i acc => acc.length = i) (fun _ r acc => (.sl .own 11 ((acc ++ r.map (wd c)).map Run.c), [])) (fun acc Y hacc => ?_) (fun i a r acc Y ha hi hr hacc hY => ?_) [] ?_ rfl ?_).trans ?_
  · simp [head20, c20b0]
  · have hw : IntKind.i64.wrap ((i : Int) + 1) = (i : Int) + 1 := i64w (by omega) (by omega)
    obtain ⟨_, hg⟩ := List.getElem?_eq_some_iff.1 ha
    have hb3 : (acc.length + 1) * 104 ≤ 140737488355328 := by omega
    have hb4 : acc.length + 1 ≤ 140737488355328 := by omega
    have hfin : ∀ x : Run, wd c a = x → ∀ s' : St, s'.norm [0, 1, 5, 6] = head20 rs c (i + 1) (acc ++ [x]) → fin [CRes.tmp 4] 0 (Y s') = some (.sl .own 11 ((acc ++ (wd c a :: r.map (wd c))).map Run.c), []) := fun x hx s' h => by
      rw [hY _ s' (by simp [hacc]) h, ← hx]; simp
    simp [head20, c20b0, hi, hg, rowsPlain, takeRows, hb3, hb4]
    cases q1 : aliveS a.state <;> simp
    · exact (hfin a (by simp [wd, alive, q1]) _ (by simp [head20, hw])).trans (by simp)
    cases q2 : leasedB a.want.hold a.til c <;> simp
    · exact (hfin { a with state := 2, left := 0 } (by simp [wd, alive, leased, q1, q2]) _ (by simp [head20, hw])).trans (by simp)
    · exact (hfin a (by simp [wd, alive, leased, q1, q2]) _ (by simp [head20, hw])).trans (by simp)
  · simp [head20]
  · unfold big; omega
  · simp
end Go.Proofs.YtpiljklnekefoaaGreatDoor

namespace Go.Proofs.YtpiljklnekefoaaGreatDoor
open Go
set_option linter.unusedSimpArgs false
set_option maxRecDepth 100000

@[simp] theorem plain_want (ws : List Want) : rowsPlain (ws.map Want.c) = true := by simp [rowsPlain]
@[simp] theorem plain_run (ws : List Run) : rowsPlain (ws.map Run.c) = true := by simp [rowsPlain]
@[simp] theorem plain_ask (ws : List Ask) : rowsPlain (ws.map Ask.c) = true := by simp [rowsPlain]
@[simp] theorem plain_grant (ws : List Grant) : rowsPlain (ws.map Grant.c) = true := by simp [rowsPlain]
@[simp] theorem plain_text (ws : List T) : rowsPlain (ws.map fun s => [.str s]) = true := by simp [rowsPlain]

theorem law117 (m : Mate) (hm : m.small) : F 117 [.agg (m.c .bor)] [] = some (.agg (m.c .own), []) := by
  refine F_run fn117 rfl ?_
  obtain ⟨h1, h2, h3, h4⟩ := hm
  have e1 : m.wants.length * 72 ≤ 140737488355328 := by omega
  have e2 : m.runs.length * 104 ≤ 140737488355328 := by omega
  have e3 : m.asks.length * 48 ≤ 140737488355328 := by omega
  have e4 : m.gives.length * 48 ≤ 140737488355328 := by omega
  have f1 : m.wants.length ≤ 140737488355328 := by omega
  have f2 : m.runs.length ≤ 140737488355328 := by omega
  have f3 : m.asks.length ≤ 140737488355328 := by omega
  have f4 : m.gives.length ≤ 140737488355328 := by omega
  simp [c117, takeRows, e1, e2, e3, e4, f1, f2, f3, f4]

theorem law120 (m : Mate) (hm : m.small) : F 120 [.agg (m.c .bor)] [] = some (.agg (m.c .own), []) := by
  refine F_run fn120 rfl ?_
  obtain ⟨h1, h2, h3, h4⟩ := hm
  have e1 : m.wants.length * 72 ≤ 140737488355328 := by omega
  have e2 : m.runs.length * 104 ≤ 140737488355328 := by omega
  have e3 : m.asks.length * 48 ≤ 140737488355328 := by omega
  have e4 : m.gives.length * 48 ≤ 140737488355328 := by omega
  have f1 : m.wants.length ≤ 140737488355328 := by omega
  have f2 : m.runs.length ≤ 140737488355328 := by omega
  have f3 : m.asks.length ≤ 140737488355328 := by omega
  have f4 : m.gives.length ≤ 140737488355328 := by omega
  simp [c120, takeRows, e1, e2, e3, e4, f1, f2, f3, f4]

def Mate.zero : Mate := ⟨⟨#[]⟩, false, 0, false, 0, [], [], [], []⟩

def fallRun (machine : Bool) (r : Run) : Option Run :=
  if alive r then (if machine then (if sEq r.want.hold ⟨#[]⟩ then none else some { r with state := 2, left := 0 }) else some r) else none
def mateFall (m : Mate) (machine : Bool) : Mate := if mateValid m then { Mate.zero with name := m.name, clock := m.clock, runs := m.runs.filterMap (fallRun machine) } else .zero

def ownVi (id sz : Nat) (xs : List (List AV)) : AV := match xs with
  | [] => .sl .own sz []
  | _ => .ref id
@[simp] theorem ownVi_nil (id sz : Nat) : ownVi id sz [] = .sl .own sz [] := rfl
@[simp] theorem ownVi_cons (id sz : Nat) (x : List AV) (xs : List (List AV)) : ownVi id sz (x :: xs) = .ref id := rfl
@[simp] theorem ownVi_snoc (id sz : Nat) (x : List AV) (xs : List (List AV)) : ownVi id sz (xs ++ [x]) = .ref id := by cases xs <;> rfl

def zeroCells : List AV := [.str ⟨#[]⟩, .bool false, .int .i64 0, .bool false, .int .i64 0, .sl .own 7 [], .sl .own 11 [], .sl .own 4 [], .sl .own 4 []]
def fallCells (m : Mate) (acc : List Run) : List AV := [.str m.name, .bool false, .int .i64 m.clock, .bool false, .int .i64 0, .sl .own 7 [], ownVi 2 11 (acc.map Run.c), .sl .own 4 [], .sl .own 4 []]

def head36 (m : Mate) (b : Bool) (i : Nat) (acc : List Run) : St := hd [(1, .bool b), (4, .ptr 0 0 0), (5, .ptr 1 0 0), (18, .sl .bor 11 (m.runs.map Run.c)), (19, .int .i64 m.runs.length), (20, .int .i64 i)] (.box zeroCells :: .box (fallCells m acc) :: ownH 11 (acc.map Run.c)) 0

theorem law36 (m : Mate) (b : Bool) (hm : m.small) : F 36 [.agg (m.c .bor), .bool b] [] = some (.agg ((mateFall m b).c .own), []) := by
  refine F_run fn36 rfl ?_
  have hr := hm.runs
  have w1 := law28 m hm
  simp only [Mate.c] at w1
  simp [c36, w1, mateFall]
  cases hv : mateValid m <;> simp
  · simp [Mate.zero]
  refine (loop_list m.runs (fun i (acc : List Run) => head36 m b i acc) (fun i acc => acc.length ≤ i) (fun _ r acc => (.agg (({ Mate.zero with name := m.name, clock := m.clock, runs := acc ++ r.filterMap (fallRun b) } : Mate).c .own), [])) (fun acc Y hacc => ?_) (fun i a r acc Y ha hi hr hacc hY => ?_) [] ?_ (Nat.le_refl _) ?_).trans ?_
  · rcases acc with _ | ⟨x, acc⟩
    · simp [head36, c36b0, zeroCells, fallCells, Mate.zero]
    · simp [head36, c36b0, zeroCells, fallCells, Mate.zero]
  · have hw : IntKind.i64.wrap ((i : Int) + 1) = (i : Int) + 1 := i64w (by omega) (by omega)
    obtain ⟨_, hg⟩ := List.getElem?_eq_some_iff.1 ha
    have hb3 : (acc.length + 1) * 104 ≤ 140737488355328 := by omega
    have hb4 : acc.length + 1 ≤ 140737488355328 := by omega
    have hno : fallRun b a = none → ∀ s' : St, s'.norm [1, 4, 5, 18, 19, 20] = head36 m b (i + 1) acc → fin [CRes.cell 4 9 true] 0 (Y s') = some (.agg (({ Mate.zero with name := m.name, clock := m.clock, runs := acc ++ (a :: r).filterMap (fallRun b) } : Mate).c .own), []) := fun hx s' h => by
      rw [hY acc s' (by omega) h]; simp [hx]
    have hyes : ∀ x, fallRun b a = some x → ∀ s' : St, s'.norm [1, 4, 5, 18, 19, 20] = head36 m b (i + 1) (acc ++ [x]) → fin [CRes.cell 4 9 true] 0 (Y s') = some (.agg (({ Mate.zero with name := m.name, clock := m.clock, runs := acc ++ (a :: r).filterMap (fallRun b) } : Mate).c .own), []) := fun x hx s' h => by
      rw [hY (acc ++ [x]) s' (by simp; omega) h]; simp [hx]
    rcases acc with _ | ⟨x, acc⟩
    · simp [head36, c36b0, zeroCells, fallCells, hi, hg, takeRows, rowsPlain]
      cases q1 : aliveS a.state <;> simp
      · exact (hno (by simp [fallRun, alive, q1]) _ (by simp [head36, hw, zeroCells, fallCells])).trans (by simp)
      cases q2 : b <;> simp
      · exact (hyes a (by simp [fallRun, alive, q1, q2]) _ (by simp [head36, hw, zeroCells, fallCells, q2])).trans (by simp [q2])
      cases q3 : sEq a.want.hold ⟨#[]⟩ <;> simp
      · exact (hyes { a with state := 2, left := 0 } (by simp [fallRun, alive, q1, q2, q3]) _ (by simp [head36, hw, zeroCells, fallCells, q2])).trans (by simp [q2])
      · exact (hno (by simp [fallRun, alive, q1, q2, q3]) _ (by simp [head36, hw, zeroCells, fallCells, q2])).trans (by simp [q2])
    · simp only [List.length_cons] at hb3 hb4
      simp [head36, c36b0, zeroCells, fallCells, hi, hg, takeRows, rowsPlain, hb3, hb4]
      cases q1 : aliveS a.state <;> simp
      · exact (hno (by simp [fallRun, alive, q1]) _ (by simp [head36, hw, zeroCells, fallCells])).trans (by simp)
      cases q2 : b <;> simp
      · exact (hyes a (by simp [fallRun, alive, q1, q2]) _ (by simp [head36, hw, zeroCells, fallCells, q2])).trans (by simp [q2])
      cases q3 : sEq a.want.hold ⟨#[]⟩ <;> simp
      · exact (hyes { a with state := 2, left := 0 } (by simp [fallRun, alive, q1, q2, q3]) _ (by simp [head36, hw, zeroCells, fallCells, q2])).trans (by simp [q2])
      · exact (hno (by simp [fallRun, alive, q1, q2, q3]) _ (by simp [head36, hw, zeroCells, fallCells, q2])).trans (by simp [q2])
  · simp [head36, zeroCells, fallCells]
  · unfold big; omega
  · simp [Mate.zero]

def fallCells3 (m : Mate) (acc : List Run) : List AV := [.str m.name, .bool false, .int .i64 m.clock, .bool false, .int .i64 0, .sl .own 7 [], ownVi 3 11 (acc.map Run.c), .sl .own 4 [], .sl .own 4 []]
def head32 (m : Mate) (b : Bool) (i : Nat) (acc : List Run) : St := hd [(1, .bool b), (2, .ptr 0 0 0), (4, .ptr 1 0 0), (5, .ptr 2 0 0), (6, .int .i64 i)] (.box (m.c .bor) :: .box zeroCells :: .box (fallCells3 m acc) :: ownH 11 (acc.map Run.c)) 0

theorem law32 (m : Mate) (b : Bool) (hm : m.small) : F 32 [.agg (m.c .bor), .bool b] [] = some (.agg ((mateFall m b).c .own), []) := by
  refine F_run fn32 rfl ?_
  have hr := hm.runs
  have w1 := law29 m hm
  simp only [Mate.c] at w1
  simp [c32, w1, mateFall]
  cases hv : mateValid m <;> simp
  · simp [Mate.zero]
  refine (loop_list m.runs (fun i (acc : List Run) => head32 m b i acc) (fun i acc => acc.length ≤ i) (fun _ r acc => (.agg (({ Mate.zero with name := m.name, clock := m.clock, runs := acc ++ r.filterMap (fallRun b) } : Mate).c .own), [])) (fun acc Y hacc => ?_) (fun i a r acc Y ha hi hr _ hY => ?_) [] ?_ (Nat.le_refl _) ?_).trans ?_
  · have w2 := law120 { Mate.zero with name := m.name, clock := m.clock, runs := acc } ⟨by simp [Mate.zero], by simp only; omega, by simp [Mate.zero], by simp [Mate.zero]⟩
    simp only [Mate.c, Mate.zero, List.map_nil] at w2
    rcases acc with _ | ⟨x, acc⟩
    · simp only [List.map_nil] at w2
      simp [head32, c32b0, zeroCells, fallCells3, Mate.zero, w2]
    · simp only [List.map_cons, Run.c] at w2
      simp [head32, c32b0, zeroCells, fallCells3, Mate.zero, w2]
  · rename_i hacc
    have hw : IntKind.i64.wrap ((i : Int) + 1) = (i : Int) + 1 := i64w (by omega) (by omega)
    obtain ⟨_, hg⟩ := List.getElem?_eq_some_iff.1 ha
    have hb3 : (acc.length + 1) * 104 ≤ 140737488355328 := by omega
    have hb4 : acc.length + 1 ≤ 140737488355328 := by omega
    have hno : fallRun b a = none → ∀ s' : St, s'.norm [1, 2, 4, 5, 6] = head32 m b (i + 1) acc → fin [CRes.cell 4 9 true] 0 (Y s') = some (.agg (({ Mate.zero with name := m.name, clock := m.clock, runs := acc ++ (a :: r).filterMap (fallRun b) } : Mate).c .own), []) := fun hx s' h => by
      rw [hY acc s' (by omega) h]; simp [hx]
    have hyes : ∀ x, fallRun b a = some x → ∀ s' : St, s'.norm [1, 2, 4, 5, 6] = head32 m b (i + 1) (acc ++ [x]) → fin [CRes.cell 4 9 true] 0 (Y s') = some (.agg (({ Mate.zero with name := m.name, clock := m.clock, runs := acc ++ (a :: r).filterMap (fallRun b) } : Mate).c .own), []) := fun x hx s' h => by
      rw [hY (acc ++ [x]) s' (by simp; omega) h]; simp [hx]
    rcases acc with _ | ⟨x, acc⟩
    all_goals
      try simp only [List.length_cons] at hb3 hb4
      simp [head32, c32b0, zeroCells, fallCells3, hi, hg, takeRows, rowsPlain, hb3, hb4]
      cases q2 : b <;> simp
      · cases q1 : aliveS a.state <;> simp
        · exact (hno (by simp [fallRun, alive, q1]) _ (by simp [head32, hw, zeroCells, fallCells3, q2])).trans (by simp [q2])
        · exact (hyes a (by simp [fallRun, alive, q1, q2]) _ (by simp [head32, hw, zeroCells, fallCells3, q2])).trans (by simp [q2])
      · cases q1 : aliveS a.state <;> simp
        · exact (hno (by simp [fallRun, alive, q1]) _ (by simp [head32, hw, zeroCells, fallCells3, q2])).trans (by simp [q2])
        cases q3 : sEq a.want.hold ⟨#[]⟩ <;> simp
        · exact (hyes { a with state := 2, left := 0 } (by simp [fallRun, alive, q1, q2, q3]) _ (by simp [head32, hw, zeroCells, fallCells3, q2])).trans (by simp [q2])
        · exact (hno (by simp [fallRun, alive, q1, q2, q3]) _ (by simp [head32, hw, zeroCells, fallCells3, q2])).trans (by simp [q2])
  · simp [head32, zeroCells, fallCells3]
  · unfold big; omega
  · simp [Mate.zero]
end Go.Proofs.YtpiljklnekefoaaGreatDoor

namespace Go.Proofs.YtpiljklnekefoaaGreatDoor
open Go
set_option linter.unusedSimpArgs false
set_option maxRecDepth 100000

def eqWant (a b : Want) : Bool := sEq a.copy b.copy && (a.version == b.version && (sEq a.hold b.hold && (a.pull == b.pull && (a.start == b.start && (a.dies == b.dies && a.grace == b.grace)))))
theorem eqWant_iff (a b : Want) : eqWant a b = true ↔ a = b := by
  cases a; cases b
  simp [eqWant, sEq_iff]

@[simp] theorem eqCells_want (s1 : T) (n1 : Int) (h1 : T) (p1 q1 d1 g1 : Int) (s2 : T) (n2 : Int) (h2 : T) (p2 q2 d2 g2 : Int) :
    eqCells [.s, .i, .s, .i, .i, .i, .i] [.str s1, .int .i64 n1, .str h1, .int .i64 p1, .int .i64 q1, .int .i64 d1, .int .i64 g1] [.str s2, .int .i64 n2, .str h2, .int .i64 p2, .int .i64 q2, .int .i64 d2, .int .i64 g2] =
      some (eqWant ⟨s1, n1, h1, p1, q1, d1, g1⟩ ⟨s2, n2, h2, p2, q2, d2, g2⟩) := by
  simp only [eqCells, eqCell, eqWant, if_true, List.length_cons, List.length_nil, and_self]
  cases sEq s1 s2 <;> simp only [Bool.false_and, Bool.true_and]
  cases n1 == n2 <;> simp only [Bool.false_and, Bool.true_and]
  cases sEq h1 h2 <;> simp only [Bool.false_and, Bool.true_and]
  cases p1 == p2 <;> simp only [Bool.false_and, Bool.true_and]
  cases q1 == q2 <;> simp only [Bool.false_and, Bool.true_and]
  cases d1 == d2 <;> simp only [Bool.false_and, Bool.true_and]
  cases g1 == g2 <;> rfl

def wantsFor (name : T) (acc : List Want) : List Place → List Want
  | [] => acc
  | p :: r => wantsFor name (if sEq p.berth name then p.wants else acc) r
def runsAre : List Run → List Want → Bool
  | r :: rs, w :: ws => eqWant r.want w && (r.state == 4 && runsAre rs ws)
  | _, _ => true
def settledRuns (up : Bool) (rs : List Run) (ws : List Want) : Bool := up && (decide (rs.length = ws.length) && runsAre rs ws)
def settledMate (ps : List Place) (m : Mate) : Bool := settledRuns m.up m.runs (wantsFor m.name [] ps)
def settled (w : Wld) : Bool := worldOk w && w.mates.all (settledMate w.land.places)

end Go.Proofs.YtpiljklnekefoaaGreatDoor

namespace Go.Proofs.YtpiljklnekefoaaGreatDoor
open Go
set_option linter.unusedSimpArgs false
set_option maxRecDepth 100000

def Run.zero : Run := ⟨⟨⟨#[]⟩, 0, ⟨#[]⟩, 0, 0, 0, 0⟩, 0, 0, 0, 0⟩
def beginR (r : Run) (clock : Int) : Run := if leased r clock then { r with state := 3, left := r.want.start } else { r with state := 2, left := 0 }
def fallsUp (n : Int) : Int := if n < 1000 then n + 1 else n
def leftOf (f : Int) : Int := if 4 ≤ f then 16 else if f ≤ 0 then 1 else if f = 1 then 2 else if f = 2 then 4 else 8
def dies (r : Run) : Run := { r with falls := fallsUp r.falls, state := 5, left := leftOf (fallsUp r.falls) }
def mateLive (r : Run) (w : Want) (wanted : Bool) (clock : Int) : Option Run :=
  if (!wanted || !eqWant w r.want) && r.state != 6 then (if alive r then some { r with state := 6, left := r.want.grace } else none)
  else if r.state ≠ 2 ∧ 1 < r.left then some { r with left := r.left - 1 }
  else if r.state = 3 then some { r with state := 4, left := r.want.dies }
  else if r.state = 4 then (if r.left = 1 then some (dies r) else some r)
  else if r.state = 6 then none
  else if r.state = 1 ∨ r.state = 2 ∨ r.state = 5 then some (beginR r clock)
  else some r

def liveRes (r : Run) (w : Want) (wanted : Bool) (clock : Int) : AV := .tup [.agg ((mateLive r w wanted clock).getD .zero).c, .bool (mateLive r w wanted clock).isSome]

theorem law92 (r : Run) (clock : Int) : F 92 [.agg r.c, .int .i64 clock] [] = some (.agg (beginR r clock).c, []) := by
  refine F_run fn92 rfl ?_
  simp [c92, beginR, leased, leasedB]
  cases q1 : sEq r.want.hold ⟨#[]⟩ <;> simp
  by_cases q2 : IntKind.i64.wrap (clock + 4) ≤ r.til
  · simp [q2]
  · simp [q2]

theorem law94 (r : Run) (clock : Int) : F 94 [.agg r.c, .int .i64 clock] [] = some (.agg (beginR r clock).c, []) := by
  refine F_run fn94 rfl ?_
  simp [c94, beginR, leased]
  by_cases q1 : leasedB r.want.hold r.til clock = true <;> simp [q1]

def head93 (r : Run) (f : Int) (i : Nat) : St := hd [(1, .ptr 0 0 0), (2, .ptr 1 0 0), (3, .int .i64 i)] [.box ({ r with state := 5, left := 2 ^ i, falls := f } : Run).c, .box Run.zero.c] 0

theorem leftOf_stop {f : Int} {i : Nat} (hi : i ≤ 4) (h1 : (i : Int) ≤ f ∨ i = 0) (h2 : ¬ ((i : Int) < f) ∨ i = 4) : (2 : Int) ^ i = leftOf f := by
  unfold leftOf
  rcases i with _ | _ | _ | _ | _ | i
  · have : f ≤ 0 := by omega
    rw [if_neg (by omega), if_pos this]; rfl
  · have : f = 1 := by omega
    subst this; rfl
  · have : f = 2 := by omega
    subst this; rfl
  · have : f = 3 := by omega
    subst this; rfl
  · rw [if_pos (by omega)]; rfl
  · omega

theorem law93 (r : Run) (hr : I64 r.falls) : F 93 [.agg r.c] [] = some (.agg (dies r).c, []) := by
  refine F_run fn93 rfl ?_
  have hu : r.falls < 1000 → IntKind.i64.wrap (r.falls + 1) = r.falls + 1 := fun h => i64w (by have := hr.1; omega) (by omega)
  have key : ∀ (f : Int) (s : St), s.norm [1, 2, 3] = head93 r f 0 →
      fin [CRes.cell 2 11 true] 0 (X F [.code (.loop [1, 2, 3] c93b0), .blk 0, .code (.seq (.region [⟨some 28, .load (.tmp 1) 11 true .plain, none⟩, ⟨none, .store (.tmp 2) (.tmp 28) 11, none⟩] [2]) .ret)] (.normal, s)) =
        some (.agg ({ r with state := 5, left := leftOf f, falls := f } : Run).c, []) := by
    intro f s hs
    refine loop_by (K := fin [CRes.cell 2 11 true] 0) (σ := Nat) (fun i => head93 r f i) (fun i => i ≤ 4 ∧ ((i : Int) ≤ f ∨ i = 0)) (fun i => 4 - i) (fun _ => (AV.agg ({ r with state := 5, left := leftOf f, falls := f } : Run).c, ([] : List (Option AO)))) (fun i Y hinv hY => ?_) 0 hs ⟨by omega, .inr rfl⟩ (by unfold big; omega)
    obtain ⟨h1, h2⟩ := hinv
    have hw : IntKind.i64.wrap ((i : Int) + 1) = (i : Int) + 1 := i64w (by omega) (by omega)
    have h2w : IntKind.i64.wrap (2 * 2 ^ i) = 2 ^ (i + 1) := by
      rcases i with _ | _ | _ | _ | _ | i
      · rfl
      · rfl
      · rfl
      · rfl
      · rfl
      · omega
    have h16 : ((2 : Int) ^ i < 16) ↔ i < 4 := by
      rcases i with _ | _ | _ | _ | _ | i
      · decide
      · decide
      · decide
      · decide
      · decide
      · omega
    by_cases q1 : (i : Int) < f
    · by_cases q2 : i < 4
      · simp [head93, c93b0, q1, q2, h16, Run.zero, h2w]
        refine hY (i + 1) _ ⟨by omega, .inl (by push_cast; omega)⟩ (by omega) ?_
        simp [head93, hw, Run.zero]
      · have hst := leftOf_stop h1 h2 (.inr (by omega))
        have h17 : ¬ (leftOf f < 16) := by rw [← hst, h16]; exact q2
        simp [head93, c93b0, q1, q2, h17, Run.zero, hst]
    · have hst := leftOf_stop h1 h2 (.inl q1)
      simp [head93, c93b0, q1, h16, Run.zero, hst]
  unfold dies fallsUp
  by_cases q : r.falls < 1000
  · simp [c93, q, hu q]
    refine (key (r.falls + 1) _ ?_).trans ?_
    · simp [head93, Run.zero]
    · simp
  · simp [c93, q]
    refine (key r.falls _ ?_).trans ?_
    · simp [head93, Run.zero]
    · simp

theorem shlLeft {f : Int} (h : f < 4) : IntKind.i64.wrap (2 ^ min (if f < 0 then (0 : Int) else f).toNat IntKind.i64.bits) = leftOf f := by
  unfold leftOf
  rw [if_neg (show ¬ 4 ≤ f by omega)]
  by_cases h0 : f ≤ 0
  · rw [if_pos (show f ≤ 0 from h0)]
    have : (if f < 0 then (0 : Int) else f) = 0 := by split <;> omega
    rw [this]; rfl
  rw [if_neg (show ¬ f ≤ 0 from h0), if_neg (show ¬ f < 0 by omega)]
  by_cases h1 : f = 1
  · subst h1; rfl
  by_cases h2 : f = 2
  · subst h2; rfl
  have h3 : f = 3 := by omega
  subst h3; rfl

theorem law14 (r : Run) (w : Want) (b : Bool) (clock : Int) (hf : I64 r.falls) (hl : I64 r.left) : F 14 [.agg r.c, .agg w.c, .bool b, .int .i64 clock] [] = some (liveRes r w b clock, []) := by
  refine F_run fn14 rfl ?_
  have w92 := law92 r clock
  have hw : 1 < r.left → IntKind.i64.wrap (r.left - 1) = r.left - 1 := fun h => i64w (by omega) (by have := hl.2; omega)
  have hu : r.falls < 1000 → IntKind.i64.wrap (r.falls + 1) = r.falls + 1 := fun h => i64w (by have := hf.1; omega) (by omega)
  simp only [Run.c] at w92
  unfold liveRes mateLive
  by_cases hu1 : b = true ∧ eqWant w r.want = true
  · obtain ⟨rfl, he⟩ := hu1
    by_cases sl : 1 < r.left
    · have sl' : ¬ r.left ≤ 1 := by omega
      have hw' := hw sl
      by_cases s1 : r.state = 1
      · simp [c14, he, s1, sl, sl', hw']
      by_cases s2 : r.state = 2
      · rw [s2] at w92
        simp [c14, he, s2, sl, sl', hw', w92]
      by_cases s3 : r.state = 3
      · simp [c14, he, s3, sl, sl', hw']
      by_cases s4 : r.state = 4
      · simp [c14, he, s4, sl, sl', hw']
      by_cases s5 : r.state = 5
      · simp [c14, he, s5, sl, sl', hw']
      by_cases s6 : r.state = 6
      · simp [c14, he, s6, sl, sl', hw']
      · simp [c14, he, s1, s2, s3, s4, s5, s6, sl, sl', hw']
    · have sl' : r.left ≤ 1 := by omega
      by_cases s1 : r.state = 1
      · rw [s1] at w92
        simp [c14, he, s1, sl, sl', w92]
      by_cases s2 : r.state = 2
      · rw [s2] at w92
        simp [c14, he, s2, sl, sl', w92]
      by_cases s3 : r.state = 3
      · simp [c14, he, s3, sl, sl']
      by_cases s4 : r.state = 4
      · by_cases sa : r.left = 1
        · have hf2 := hf.1
          have bk : sEq (bkey false) (bkey true) = false := by
            rw [← Bool.not_eq_true, sEq_iff]
            intro e
            have := congrArg (fun x => x.data.toList) e
            simp [bkey] at this
          by_cases q : r.falls < 1000
          · have hq := hu q
            by_cases q4 : r.falls + 1 < 4
            · have q4' : ¬ (4 ≤ r.falls + 1) := by omega
              have hsh := shlLeft q4
              have hnn : ¬ ((if r.falls + 1 < 0 then 0 else r.falls + 1) < 0) := by split <;> omega
              simp [c14, he, s4, sl, sl', sa, q, hq, q4, mapGet, mapPut, noKeys, dies, fallsUp, hnn, hsh]
            · have q4' : 4 ≤ r.falls + 1 := by omega
              simp [c14, he, s4, sl, sl', sa, q, hq, q4, q4', mapGet, mapPut, noKeys, dies, fallsUp, leftOf]
          · have hq : IntKind.i64.wrap r.falls = r.falls := i64w hf.1 hf.2
            have q4 : ¬ r.falls < 4 := by omega
            have q4' : 4 ≤ r.falls := by omega
            simp [c14, he, s4, sl, sl', sa, q, hq, q4, q4', mapGet, mapPut, noKeys, bk, dies, fallsUp, leftOf]
        · simp [c14, he, s4, sl, sl', sa]
      by_cases s5 : r.state = 5
      · rw [s5] at w92
        simp [c14, he, s5, sl, sl', w92]
      by_cases s6 : r.state = 6
      · simp [c14, he, s6, sl, sl', Run.zero]
      · simp [c14, he, s1, s2, s3, s4, s5, s6, sl, sl']
  · have hun : (!b || !eqWant w r.want) = true := by
      cases b <;> simp at hu1 ⊢
      exact hu1
    by_cases s6 : r.state = 6
    · by_cases sl : 1 < r.left
      · have sl' : ¬ r.left ≤ 1 := by omega
        have hw' := hw sl
        cases b
        · simp [c14, s6, sl, sl', hw']
        · simp only [Bool.not_true, Bool.false_or, Bool.not_eq_true'] at hun
          simp [c14, s6, sl, sl', hw', hun]
      · have sl' : r.left ≤ 1 := by omega
        cases b
        · simp [c14, s6, sl, sl', Run.zero]
        · simp only [Bool.not_true, Bool.false_or, Bool.not_eq_true'] at hun
          simp [c14, s6, sl, sl', hun, Run.zero]
    · cases q : aliveS r.state
      · cases b
        · simp [c14, s6, alive, q, Run.zero]
        · simp only [Bool.not_true, Bool.false_or, Bool.not_eq_true'] at hun
          simp [c14, s6, alive, q, hun, Run.zero]
      · cases b
        · simp [c14, s6, alive, q]
        · simp only [Bool.not_true, Bool.false_or, Bool.not_eq_true'] at hun
          simp [c14, s6, alive, q, hun]

theorem law15 (r : Run) (w : Want) (b : Bool) (clock : Int) (hf : I64 r.falls) (hl : I64 r.left) : F 15 [.agg r.c, .agg w.c, .bool b, .int .i64 clock] [] = some (liveRes r w b clock, []) := by
  refine F_run fn15 rfl ?_
  have w94 := law94 r clock
  have w93 := law93 r hf
  have hw : 1 < r.left → IntKind.i64.wrap (r.left - 1) = r.left - 1 := fun h => i64w (by omega) (by have := hl.2; omega)
  simp only [Run.c] at w94 w93
  unfold liveRes mateLive
  by_cases hu1 : b = true ∧ eqWant w r.want = true
  · obtain ⟨rfl, he⟩ := hu1
    by_cases s2 : r.state = 2
    · rw [s2] at w94
      simp [c15, he, s2, w94]
    by_cases sl : 1 < r.left
    · have hw' := hw sl
      simp [c15, he, s2, sl, hw']
    · by_cases s1 : r.state = 1
      · rw [s1] at w94
        simp [c15, he, s1, sl, w94]
      by_cases s3 : r.state = 3
      · simp [c15, he, s3, sl]
      by_cases s4 : r.state = 4
      · by_cases sa : r.left = 1
        · rw [s4, sa] at w93
          simp [c15, he, s4, sl, sa, w93]
        · simp [c15, he, s4, sl, sa]
      by_cases s5 : r.state = 5
      · rw [s5] at w94
        simp [c15, he, s5, sl, w94]
      by_cases s6 : r.state = 6
      · simp [c15, he, s6, sl, Run.zero]
      · simp [c15, he, s1, s2, s3, s4, s5, s6, sl]
  · have hun : (!b || !eqWant w r.want) = true := by
      cases b <;> simp at hu1 ⊢
      exact hu1
    by_cases s6 : r.state = 6
    · by_cases sl : 1 < r.left
      · have hw' := hw sl
        cases b
        · simp [c15, s6, sl, hw']
        · simp only [Bool.not_true, Bool.false_or, Bool.not_eq_true'] at hun
          simp [c15, s6, sl, hw', hun]
      · cases b
        · simp [c15, s6, sl, Run.zero]
        · simp only [Bool.not_true, Bool.false_or, Bool.not_eq_true'] at hun
          simp [c15, s6, sl, hun, Run.zero]
    · cases q : aliveS r.state
      · cases b
        · simp [c15, s6, alive, q, Run.zero]
        · simp only [Bool.not_true, Bool.false_or, Bool.not_eq_true'] at hun
          simp [c15, s6, alive, q, hun, Run.zero]
      · cases b
        · simp [c15, s6, alive, q]
        · simp only [Bool.not_true, Bool.false_or, Bool.not_eq_true'] at hun
          simp [c15, s6, alive, q, hun]
end Go.Proofs.YtpiljklnekefoaaGreatDoor

namespace Go.Proofs.YtpiljklnekefoaaGreatDoor
open Go
set_option linter.unusedSimpArgs false
set_option maxRecDepth 100000

def selT (l : List T) (i : Int) : T := l.getD i.toNat ⟨#[]⟩
def selI (l : List Int) (i : Int) : Int := l.getD i.toNat 0

theorem toNat_cases {i : Int} {n : Nat} (h0 : 0 ≤ i) (h : i < n) : ∃ k : Nat, i = k ∧ k < n := ⟨i.toNat, by omega, by omega⟩

@[simp] theorem selT2 (a b : T) {i : Int} (h : i.toNat < [[AV.str a], [.str b]].length) : [[AV.str a], [.str b]][i.toNat]'h = [.str (selT [a, b] i)] := by
  unfold selT
  generalize i.toNat = k at h ⊢
  rcases k with _ | _ | k <;> first | rfl | (simp at h; omega)
@[simp] theorem selI2 (a b : Int) {i : Int} (h : i.toNat < [[AV.int .i64 a], [.int .i64 b]].length) : [[AV.int .i64 a], [.int .i64 b]][i.toNat]'h = [.int .i64 (selI [a, b] i)] := by
  unfold selI
  generalize i.toNat = k at h ⊢
  rcases k with _ | _ | k <;> first | rfl | (simp at h; omega)
@[simp] theorem selT3 (a b c : T) {i : Int} (h : i.toNat < [[AV.str a], [.str b], [.str c]].length) : [[AV.str a], [.str b], [.str c]][i.toNat]'h = [.str (selT [a, b, c] i)] := by
  unfold selT
  generalize i.toNat = k at h ⊢
  rcases k with _ | _ | _ | k <;> first | rfl | (simp at h; omega)
@[simp] theorem selI3 (a b c : Int) {i : Int} (h : i.toNat < [[AV.int .i64 a], [.int .i64 b], [.int .i64 c]].length) : [[AV.int .i64 a], [.int .i64 b], [.int .i64 c]][i.toNat]'h = [.int .i64 (selI [a, b, c] i)] := by
  unfold selI
  generalize i.toNat = k at h ⊢
  rcases k with _ | _ | _ | k <;> first | rfl | (simp at h; omega)
@[simp] theorem selT4 (a b c d : T) {i : Int} (h : i.toNat < [[AV.str a], [.str b], [.str c], [.str d]].length) : [[AV.str a], [.str b], [.str c], [.str d]][i.toNat]'h = [.str (selT [a, b, c, d] i)] := by
  unfold selT
  generalize i.toNat = k at h ⊢
  rcases k with _ | _ | _ | _ | k <;> first | rfl | (simp at h; omega)
@[simp] theorem selI4 (a b c d : Int) {i : Int} (h : i.toNat < [[AV.int .i64 a], [.int .i64 b], [.int .i64 c], [.int .i64 d]].length) : [[AV.int .i64 a], [.int .i64 b], [.int .i64 c], [.int .i64 d]][i.toNat]'h = [.int .i64 (selI [a, b, c, d] i)] := by
  unfold selI
  generalize i.toNat = k at h ⊢
  rcases k with _ | _ | _ | _ | k <;> first | rfl | (simp at h; omega)
@[simp] theorem selT5 (a b c d e : T) {i : Int} (h : i.toNat < [[AV.str a], [.str b], [.str c], [.str d], [.str e]].length) : [[AV.str a], [.str b], [.str c], [.str d], [.str e]][i.toNat]'h = [.str (selT [a, b, c, d, e] i)] := by
  unfold selT
  generalize i.toNat = k at h ⊢
  rcases k with _ | _ | _ | _ | _ | k <;> first | rfl | (simp at h; omega)
@[simp] theorem selI5 (a b c d e : Int) {i : Int} (h : i.toNat < [[AV.int .i64 a], [.int .i64 b], [.int .i64 c], [.int .i64 d], [.int .i64 e]].length) : [[AV.int .i64 a], [.int .i64 b], [.int .i64 c], [.int .i64 d], [.int .i64 e]][i.toNat]'h = [.int .i64 (selI [a, b, c, d, e] i)] := by
  unfold selI
  generalize i.toNat = k at h ⊢
  rcases k with _ | _ | _ | _ | _ | k <;> first | rfl | (simp at h; omega)
@[simp] theorem selT6 (a b c d e f : T) {i : Int} (h : i.toNat < [[AV.str a], [.str b], [.str c], [.str d], [.str e], [.str f]].length) : [[AV.str a], [.str b], [.str c], [.str d], [.str e], [.str f]][i.toNat]'h = [.str (selT [a, b, c, d, e, f] i)] := by
  unfold selT
  generalize i.toNat = k at h ⊢
  rcases k with _ | _ | _ | _ | _ | _ | k <;> first | rfl | (simp at h; omega)
@[simp] theorem selI6 (a b c d e f : Int) {i : Int} (h : i.toNat < [[AV.int .i64 a], [.int .i64 b], [.int .i64 c], [.int .i64 d], [.int .i64 e], [.int .i64 f]].length) : [[AV.int .i64 a], [.int .i64 b], [.int .i64 c], [.int .i64 d], [.int .i64 e], [.int .i64 f]][i.toNat]'h = [.int .i64 (selI [a, b, c, d, e, f] i)] := by
  unfold selI
  generalize i.toNat = k at h ⊢
  rcases k with _ | _ | _ | _ | _ | _ | k <;> first | rfl | (simp at h; omega)
@[simp] theorem selT7 (a b c d e f g : T) {i : Int} (h : i.toNat < [[AV.str a], [.str b], [.str c], [.str d], [.str e], [.str f], [.str g]].length) : [[AV.str a], [.str b], [.str c], [.str d], [.str e], [.str f], [.str g]][i.toNat]'h = [.str (selT [a, b, c, d, e, f, g] i)] := by
  unfold selT
  generalize i.toNat = k at h ⊢
  rcases k with _ | _ | _ | _ | _ | _ | _ | k <;> first | rfl | (simp at h; omega)
@[simp] theorem selI7 (a b c d e f g : Int) {i : Int} (h : i.toNat < [[AV.int .i64 a], [.int .i64 b], [.int .i64 c], [.int .i64 d], [.int .i64 e], [.int .i64 f], [.int .i64 g]].length) : [[AV.int .i64 a], [.int .i64 b], [.int .i64 c], [.int .i64 d], [.int .i64 e], [.int .i64 f], [.int .i64 g]][i.toNat]'h = [.int .i64 (selI [a, b, c, d, e, f, g] i)] := by
  unfold selI
  generalize i.toNat = k at h ⊢
  rcases k with _ | _ | _ | _ | _ | _ | _ | k <;> first | rfl | (simp at h; omega)
@[simp] theorem selT8 (a b c d e f g u : T) {i : Int} (h : i.toNat < [[AV.str a], [.str b], [.str c], [.str d], [.str e], [.str f], [.str g], [.str u]].length) : [[AV.str a], [.str b], [.str c], [.str d], [.str e], [.str f], [.str g], [.str u]][i.toNat]'h = [.str (selT [a, b, c, d, e, f, g, u] i)] := by
  unfold selT
  generalize i.toNat = k at h ⊢
  rcases k with _ | _ | _ | _ | _ | _ | _ | _ | k <;> first | rfl | (simp at h; omega)
@[simp] theorem selI8 (a b c d e f g u : Int) {i : Int} (h : i.toNat < [[AV.int .i64 a], [.int .i64 b], [.int .i64 c], [.int .i64 d], [.int .i64 e], [.int .i64 f], [.int .i64 g], [.int .i64 u]].length) : [[AV.int .i64 a], [.int .i64 b], [.int .i64 c], [.int .i64 d], [.int .i64 e], [.int .i64 f], [.int .i64 g], [.int .i64 u]][i.toNat]'h = [.int .i64 (selI [a, b, c, d, e, f, g, u] i)] := by
  unfold selI
  generalize i.toNat = k at h ⊢
  rcases k with _ | _ | _ | _ | _ | _ | _ | _ | k <;> first | rfl | (simp at h; omega)

noncomputable def drawWant (bs : List Int) (p : Int) (copy : T) : Want :=
  ⟨copy, 1 + pickV bs p 3, selT [⟨#[]⟩, ⟨#[118, 111, 108]⟩, ⟨#[105, 112]⟩, ⟨#[118, 111, 108, 50]⟩] (pickV bs (p + 1) 4), pickV bs (p + 2) 4, pickV bs (p + 3) 3, selI [0, 0, 0, 1, 3, 8] (pickV bs (p + 4) 6), pickV bs (p + 5) 4⟩

theorem law87 (bs : List Int) (p : Int) (copy : T) (hb : Code bs) (h0 : 0 ≤ p) (hp : p ≤ 100000000000) : F 87 [.ptr 0 0 0, .str copy] [rdBox bs p] = some (.agg (drawWant bs p copy).c, [some (rdBox bs (p + 6))]) := by
  refine F_run fn87 rfl ?_
  obtain ⟨a1, a2, a3⟩ := law89 bs p 3 hb h0 (by omega) (by omega)
  obtain ⟨b1, b2, b3⟩ := law89 bs (p + 1) 4 hb (by omega) (by omega) (by omega)
  obtain ⟨c1, c2, c3⟩ := law89 bs (p + 2) 4 hb (by omega) (by omega) (by omega)
  obtain ⟨d1, d2, d3⟩ := law89 bs (p + 3) 3 hb (by omega) (by omega) (by omega)
  obtain ⟨e1, e2, e3⟩ := law89 bs (p + 4) 6 hb (by omega) (by omega) (by omega)
  obtain ⟨f1, f2, f3⟩ := law89 bs (p + 5) 4 hb (by omega) (by omega) (by omega)
  rw [show p + 1 + 1 = p + 2 by omega] at b1
  rw [show p + 2 + 1 = p + 3 by omega] at c1
  rw [show p + 3 + 1 = p + 4 by omega] at d1
  rw [show p + 4 + 1 = p + 5 by omega] at e1
  rw [show p + 5 + 1 = p + 6 by omega] at f1
  have hu : IntKind.i64.wrap (1 + pickV bs p 3) = 1 + pickV bs p 3 := i64w (by omega) (by have := a3 (by omega); omega)
  have b4 := b3 (by omega)
  have e4 := e3 (by omega)
  simp only [rdBox] at a1 b1 c1 d1 e1 f1 ⊢
  simp [c87, a1, b1, c1, d1, e1, f1, b2, b4, e2, e4, hu, drawWant]

/-! ### Drawn values are of moderate size -/
def tame (n : Int) : Prop := -100000000 ≤ n ∧ n ≤ 100000000
def inS (h : T) : Bool := [(⟨#[]⟩ : T), ⟨#[118, 111, 108]⟩, ⟨#[105, 112]⟩, ⟨#[118, 111, 108, 50]⟩, ⟨#[122, 122]⟩, ⟨#[42]⟩, ⟨#[120, 32, 121]⟩].any (sEq h)
theorem inS_mem {h : T} (hx : h ∈ [(⟨#[]⟩ : T), ⟨#[118, 111, 108]⟩, ⟨#[105, 112]⟩, ⟨#[118, 111, 108, 50]⟩, ⟨#[122, 122]⟩, ⟨#[42]⟩, ⟨#[120, 32, 121]⟩]) : inS h = true := List.any_eq_true.2 ⟨h, hx, (sEq_iff _ _).2 rfl⟩
theorem selT_inS {l : List T} (h : ∀ x ∈ l, inS x = true) (i : Int) : inS (selT l i) = true := by
  unfold selT
  rw [List.getD_eq_getElem?_getD]
  cases e : l[i.toNat]? with
  | none => exact inS_mem (by simp)
  | some x => exact h x (List.mem_of_getElem? e)
structure Want.tame (w : Want) : Prop where
  copy : w.copy.size ≤ 1000
  version : YtpiljklnekefoaaGreatDoor.tame w.version
  hold : inS w.hold = true
  pull : YtpiljklnekefoaaGreatDoor.tame w.pull
  start : YtpiljklnekefoaaGreatDoor.tame w.start
  dies : YtpiljklnekefoaaGreatDoor.tame w.dies
  grace : YtpiljklnekefoaaGreatDoor.tame w.grace
structure Run.tame (r : Run) : Prop where
  want : r.want.tame
  state : YtpiljklnekefoaaGreatDoor.tame r.state
  left : YtpiljklnekefoaaGreatDoor.tame r.left
  falls : YtpiljklnekefoaaGreatDoor.tame r.falls
  til : YtpiljklnekefoaaGreatDoor.tame r.til

theorem selT_le {l : List T} {n : Nat} (h : ∀ x ∈ l, x.size ≤ n) (i : Int) : (selT l i).size ≤ n := by
  unfold selT
  rw [List.getD_eq_getElem?_getD]
  cases e : l[i.toNat]? with
  | none => exact Nat.zero_le _
  | some x => exact h x (List.mem_of_getElem? e)
theorem selI_tame {l : List Int} (h : ∀ x ∈ l, tame x) (i : Int) : tame (selI l i) := by
  unfold selI
  rw [List.getD_eq_getElem?_getD]
  cases e : l[i.toNat]? with
  | none => exact ⟨by simp, by simp⟩
  | some x => exact h x (List.mem_of_getElem? e)
theorem pick_tame {x n : Int} (h0 : 0 ≤ x) (h : x < n) (hn : n ≤ 100000000) : tame x := ⟨by omega, by omega⟩

theorem drawWant_tame {bs : List Int} {p : Int} {copy : T} (hb : Code bs) (h0 : 0 ≤ p) (hp : p ≤ 100000000000) (hc : copy.size ≤ 1000) : (drawWant bs p copy).tame := by
  obtain ⟨_, a2, a3⟩ := law89 bs p 3 hb h0 (by omega) (by omega)
  obtain ⟨_, c2, c3⟩ := law89 bs (p + 2) 4 hb (by omega) (by omega) (by omega)
  obtain ⟨_, d2, d3⟩ := law89 bs (p + 3) 3 hb (by omega) (by omega) (by omega)
  obtain ⟨_, f2, f3⟩ := law89 bs (p + 5) 4 hb (by omega) (by omega) (by omega)
  have a4 := a3 (by omega)
  have c4 := c3 (by omega)
  have d4 := d3 (by omega)
  have f4 := f3 (by omega)
  refine ⟨hc, ⟨by simp only [drawWant]; omega, by simp only [drawWant]; omega⟩, selT_inS (fun x hx => inS_mem (by simp at hx ⊢; rcases hx with rfl | rfl | rfl | rfl <;> simp)) _, pick_tame c2 c4 (by omega), pick_tame d2 d4 (by omega), selI_tame (by simp [tame]) _, pick_tame f2 f4 (by omega)⟩

/-! ### A text many times -/
def headMany (s : T) (n : Int) (out : T) : St := hd [(0, .str s), (1, .int .i64 n), (5, .str out)] [] 0

def manyGo (n : Nat) (s out : T) : T := if _h : n = 0 then out else manyGo (n / 2) (s ++ s) (if n % 2 = 1 then out ++ s else out)
termination_by n
decreasing_by omega

theorem app_size (x y : T) : (x ++ y).size = x.size + y.size := ByteArray.size_append

theorem manyGo_size (n : Nat) (s out : T) : (manyGo n s out).size = out.size + s.size * n := by
  rw [manyGo]
  split
  · subst_vars; simp
  · rename_i h
    rw [manyGo_size (n / 2)]
    have e : n = 2 * (n / 2) + n % 2 := by omega
    have h2 : n % 2 < 2 := Nat.mod_lt _ (by omega)
    generalize n / 2 = q at *
    generalize n % 2 = r at *
    subst e
    rcases r with _ | _ | r
    · simp [app_size]
      rw [← Nat.mul_assoc, Nat.mul_two]
    · simp [app_size]
      rw [Nat.mul_add, ← Nat.mul_assoc, Nat.mul_two]
      omega
    · omega
termination_by n
decreasing_by omega

theorem law160 (s : T) (n : Nat) (hs : s.size ≤ 1000) (hn : n ≤ 1000000) : F 160 [.str s, .int .i64 n] [] = some (.str (manyGo n s ⟨#[]⟩), []) := by
  refine F_run fn160 rfl ?_
  simp [c160]
  refine (loop_by (σ := T × Nat × T) (fun x => headMany x.1 x.2.1 x.2.2) (fun x => x.2.1 ≤ 1000000 ∧ x.1.size * x.2.1 + x.2.2.size ≤ 1000000000) (fun x => x.2.1) (fun x => (.str (manyGo x.2.1 x.1 x.2.2), [])) (fun x Y hi hY => ?_) (s, n, ⟨#[]⟩) ?_ ⟨hn, ?_⟩ ?_).trans rfl
  · obtain ⟨s, n, out⟩ := x
    obtain ⟨h1, h2⟩ := hi
    simp only at h1 h2 hY ⊢
    rcases Nat.eq_zero_or_pos n with rfl | hp
    · have e : manyGo 0 s out = out := by rw [manyGo]; simp
      simp [headMany, c160b0, e]
    · have e : manyGo n s out = manyGo (n / 2) (s ++ s) (if n % 2 = 1 then out ++ s else out) := by rw [manyGo, dif_neg (by omega)]
      have hq : IntKind.i64.wrap ((n : Int) / 2) = ((n / 2 : Nat) : Int) := by rw [i64w (by omega) (by omega)]; omega
      have hsn : s.size ≤ s.size * n := Nat.le_mul_of_pos_right _ hp
      have g1 : s.size + s.size ≤ 9223372036854775807 := by omega
      have g2 : out.size + s.size ≤ 9223372036854775807 := by omega
      have hsz := manyGo_size n s out
      by_cases q : n % 2 = 1
      · have qi : ((n : Int).tmod 2 = 1) := by rw [Int.tmod_eq_emod_of_nonneg (by omega)]; omega
        have qi2 : ((n : Int) % 2 = 1) := by omega
        simp [headMany, c160b0, hp, e, q, qi, qi2, g1, g2]
        refine hY (s ++ s, n / 2, out ++ s) _ ⟨by simp only; omega, ?_⟩ (by simp only; omega) ?_
        · simp only [app_size]
          have e2 : n = 2 * (n / 2) + 1 := by omega
          generalize n / 2 = k at *
          subst e2
          have : s.size * (2 * k + 1) = (s.size + s.size) * k + s.size := by rw [Nat.mul_add, ← Nat.mul_assoc, Nat.mul_two, Nat.mul_one]
          omega
        · simp [headMany, hq]
      · have qi : ¬ ((n : Int).tmod 2 = 1) := by rw [Int.tmod_eq_emod_of_nonneg (by omega)]; omega
        have qi2 : ¬ ((n : Int) % 2 = 1) := by omega
        simp [headMany, c160b0, hp, e, q, qi, qi2, g1]
        refine hY (s ++ s, n / 2, out) _ ⟨by simp only; omega, ?_⟩ (by simp only; omega) ?_
        · simp only [app_size]
          have e2 : n = 2 * (n / 2) := by omega
          generalize n / 2 = k at *
          subst e2
          have : s.size * (2 * k) = (s.size + s.size) * k := by rw [← Nat.mul_assoc, Nat.mul_two]
          omega
        · simp [headMany, hq]
  · simp [headMany]
  · have : s.size * n ≤ 1000 * 1000000 := Nat.mul_le_mul hs hn
    show s.size * n + (⟨#[]⟩ : T).size ≤ 1000000000
    have h0 : (⟨#[]⟩ : T).size = 0 := rfl
    omega
  · unfold big; simp only; omega
theorem law144 (bs : List Int) (p : Int) (w : Want) (hb : Code bs) (h0 : 0 ≤ p) (hp : p ≤ 100000000000) (hw : w.tame) :
    ∃ w' p', F 144 [.ptr 0 0 0, .agg w.c] [rdBox bs p] = some (.agg w'.c, [some (rdBox bs p')]) ∧ p ≤ p' ∧ p' ≤ p + 3 ∧ Want.tame w' := by
  obtain ⟨a1, a2, a3⟩ := law89 bs p 7 hb h0 (by omega) (by omega)
  obtain ⟨b1, b2, b3⟩ := law89 bs (p + 1) 3 hb (by omega) (by omega) (by omega)
  rw [show p + 1 + 1 = p + 2 by omega] at b1
  have b4 := b3 (by omega)
  obtain ⟨hw1, hw2, hw3, hw4, hw5, hw6, hw7⟩ := hw
  simp only [rdBox] at a1 b1 ⊢
  by_cases k0 : pickV bs p 7 = 0
  · obtain ⟨c1, c2, c3⟩ := law89 bs (p + 1) 2 hb (by omega) (by omega) (by omega)
    obtain ⟨d1, d2, d3⟩ := law89 bs (p + 2) 3 hb (by omega) (by omega) (by omega)
    rw [show p + 1 + 1 = p + 2 by omega] at c1
    rw [show p + 2 + 1 = p + 3 by omega] at d1
    have c4 := c3 (by omega)
    have d4 := d3 (by omega)
    obtain ⟨n, hn, hn2⟩ := toNat_cases (i := 20 + pickV bs (p + 1) 2) (n := 100) (by omega) (by omega)
    have hu : IntKind.i64.wrap (20 + pickV bs (p + 1) 2) = n := by rw [i64w (by omega) (by omega)]; exact hn
    have e1 := law160 ⟨#[110]⟩ n (by decide) (by omega)
    have e2 := manyGo_size n ⟨#[110]⟩ ⟨#[]⟩
    have e3 : (manyGo n ⟨#[110]⟩ ⟨#[]⟩).size ≤ 1000 := by
      rw [e2]
      show 0 + 1 * n ≤ 1000
      omega
    refine ⟨{ w with copy := selT [⟨#[]⟩, ⟨#[120, 32, 121]⟩, manyGo n ⟨#[110]⟩ ⟨#[]⟩] (pickV bs (p + 2) 3) }, p + 3, F_run fn144 rfl ?_, by omega, by omega, ⟨selT_le ?_ _, hw2, hw3, hw4, hw5, hw6, hw7⟩⟩
    · simp only [rdBox] at c1 d1
      simp [c144, a1, k0, c1, d1, d2, d4, hu, e1]
    · intro x hx
      rcases List.mem_cons.1 hx with rfl | hx
      · decide
      rcases List.mem_cons.1 hx with rfl | hx
      · decide
      rw [List.mem_singleton.1 hx]
      exact e3
  by_cases k1 : pickV bs p 7 = 1
  · refine ⟨{ w with version := selI [0, 1000000, 1000001] (pickV bs (p + 1) 3) }, p + 2, F_run fn144 rfl ?_, by omega, by omega, ⟨hw1, selI_tame (by simp [tame]) _, hw3, hw4, hw5, hw6, hw7⟩⟩
    simp [c144, a1, k0, k1, b1, b2, b4]
  by_cases k2 : pickV bs p 7 = 2
  · refine ⟨{ w with hold := selT [⟨#[120, 32, 121]⟩, ⟨#[42]⟩, ⟨#[118, 111, 108]⟩] (pickV bs (p + 1) 3) }, p + 2, F_run fn144 rfl ?_, by omega, by omega, ⟨hw1, hw2, selT_inS (fun x hx => inS_mem (by simp at hx ⊢; rcases hx with rfl | rfl | rfl <;> simp)) _, hw4, hw5, hw6, hw7⟩⟩
    simp [c144, a1, k0, k1, k2, b1, b2, b4]
  by_cases k3 : pickV bs p 7 = 3
  · refine ⟨{ w with pull := selI [-1, 100, 101] (pickV bs (p + 1) 3) }, p + 2, F_run fn144 rfl ?_, by omega, by omega, ⟨hw1, hw2, hw3, selI_tame (by simp [tame]) _, hw5, hw6, hw7⟩⟩
    simp [c144, a1, k0, k1, k2, k3, b1, b2, b4]
  by_cases k4 : pickV bs p 7 = 4
  · refine ⟨{ w with start := selI [-1, 100, 101] (pickV bs (p + 1) 3) }, p + 2, F_run fn144 rfl ?_, by omega, by omega, ⟨hw1, hw2, hw3, hw4, selI_tame (by simp [tame]) _, hw6, hw7⟩⟩
    simp [c144, a1, k0, k1, k2, k3, k4, b1, b2, b4]
  by_cases k5 : pickV bs p 7 = 5
  · refine ⟨{ w with dies := selI [-1, 100, 101] (pickV bs (p + 1) 3) }, p + 2, F_run fn144 rfl ?_, by omega, by omega, ⟨hw1, hw2, hw3, hw4, hw5, selI_tame (by simp [tame]) _, hw7⟩⟩
    simp [c144, a1, k0, k1, k2, k3, k4, k5, b1, b2, b4]
  · refine ⟨{ w with grace := selI [-1, 100, 101] (pickV bs (p + 1) 3) }, p + 2, F_run fn144 rfl ?_, by omega, by omega, ⟨hw1, hw2, hw3, hw4, hw5, hw6, selI_tame (by simp [tame]) _⟩⟩
    simp [c144, a1, k0, k1, k2, k3, k4, k5, b1, b2, b4]
theorem law90 (bs : List Int) (p : Int) (copy : T) (clock : Int) (hb : Code bs) (h0 : 0 ≤ p) (hp : p ≤ 10000000000) (hc : copy.size ≤ 1000) (hk : 0 ≤ clock ∧ clock ≤ 10000000) :
    ∃ r' p', F 90 [.ptr 0 0 0, .str copy, .int .i64 clock] [rdBox bs p] = some (.agg r'.c, [some (rdBox bs p')]) ∧ p ≤ p' ∧ p' ≤ p + 10 ∧ Run.tame r' := by
  have w0 := law87 bs p copy hb h0 (by omega)
  have w1 := drawWant_tame (p := p) hb h0 (by omega) hc
  generalize drawWant bs p copy = w at w0 w1
  obtain ⟨b1, b2, b3⟩ := law89 bs (p + 6) 6 hb (by omega) (by omega) (by omega)
  obtain ⟨c1, c2, c3⟩ := law89 bs (p + 7) 5 hb (by omega) (by omega) (by omega)
  obtain ⟨d1, d2, d3⟩ := law89 bs (p + 8) 6 hb (by omega) (by omega) (by omega)
  obtain ⟨e1, e2, e3⟩ := law89 bs (p + 9) 14 hb (by omega) (by omega) (by omega)
  rw [show p + 6 + 1 = p + 7 by omega] at b1
  rw [show p + 7 + 1 = p + 8 by omega] at c1
  rw [show p + 8 + 1 = p + 9 by omega] at d1
  rw [show p + 9 + 1 = p + 10 by omega] at e1
  have b4 := b3 (by omega)
  have c4 := c3 (by omega)
  have d4 := d3 (by omega)
  have e4 := e3 (by omega)
  generalize pickV bs (p + 6) 6 = x1 at *
  generalize pickV bs (p + 7) 5 = x2 at *
  generalize pickV bs (p + 8) 6 = x3 at *
  generalize pickV bs (p + 9) 14 = x4 at *
  have u1 : IntKind.i64.wrap (1 + x1) = 1 + x1 := i64w (by omega) (by omega)
  have u0 : IntKind.i64.wrap 2 = 2 := i64w (by omega) (by omega)
  have u2 : IntKind.i64.wrap (clock + x4) = clock + x4 := i64w (by omega) (by omega)
  have u3 : IntKind.i64.wrap (clock + x4 - 4) = clock + x4 - 4 := i64w (by omega) (by omega)
  simp only [rdBox, Want.c] at w0 b1 c1 d1 e1 ⊢
  have t1 : tame (1 + x1) := ⟨by omega, by omega⟩
  have t3 : tame x3 := ⟨by omega, by omega⟩
  have t2 : tame x2 := ⟨by omega, by omega⟩
  have t0 : tame 0 := ⟨by omega, by omega⟩
  have t4 : tame (clock + x4 - 4) := ⟨by omega, by omega⟩
  by_cases q1 : sEq w.hold ⟨#[]⟩ = true
  · by_cases q2 : 1 + x1 = 2
    · refine ⟨⟨w, 1 + x1, 0, x3, 0⟩, p + 9, F_run fn90 rfl ?_, by omega, by omega, ⟨w1, t1, t0, t3, t0⟩⟩
      simp [c90, w0, b1, c1, d1, u0, u1, q1, q2]
    · refine ⟨⟨w, 1 + x1, x2, x3, 0⟩, p + 9, F_run fn90 rfl ?_, by omega, by omega, ⟨w1, t1, t2, t3, t0⟩⟩
      simp [c90, w0, b1, c1, d1, u0, u1, q1, q2]
  · simp only [Bool.not_eq_true] at q1
    by_cases q3 : clock + x4 - 4 < 0
    · by_cases q2 : 1 + x1 = 2
      · refine ⟨⟨w, 1 + x1, 0, x3, 0⟩, p + 10, F_run fn90 rfl ?_, by omega, by omega, ⟨w1, t1, t0, t3, t0⟩⟩
        simp [c90, w0, b1, c1, d1, e1, u0, u1, u2, u3, q1, q2, q3]
      · refine ⟨⟨w, 1 + x1, x2, x3, 0⟩, p + 10, F_run fn90 rfl ?_, by omega, by omega, ⟨w1, t1, t2, t3, t0⟩⟩
        simp [c90, w0, b1, c1, d1, e1, u0, u1, u2, u3, q1, q2, q3]
    · by_cases q2 : 1 + x1 = 2
      · refine ⟨⟨w, 1 + x1, 0, x3, clock + x4 - 4⟩, p + 10, F_run fn90 rfl ?_, by omega, by omega, ⟨w1, t1, t0, t3, t4⟩⟩
        simp [c90, w0, b1, c1, d1, e1, u0, u1, u2, u3, q1, q2, q3]
      · refine ⟨⟨w, 1 + x1, x2, x3, clock + x4 - 4⟩, p + 10, F_run fn90 rfl ?_, by omega, by omega, ⟨w1, t1, t2, t3, t4⟩⟩
        simp [c90, w0, b1, c1, d1, e1, u0, u1, u2, u3, q1, q2, q3]

theorem law88 (bs : List Int) (p : Int) (r : Run) (hb : Code bs) (h0 : 0 ≤ p) (hp : p ≤ 10000000000) (hr : r.tame) :
    ∃ r' p', F 88 [.ptr 0 0 0, .agg r.c] [rdBox bs p] = some (.agg r'.c, [some (rdBox bs p')]) ∧ p ≤ p' ∧ p' ≤ p + 5 ∧ Run.tame r' := by
  obtain ⟨a1, a2, a3⟩ := law89 bs p 6 hb h0 (by omega) (by omega)
  obtain ⟨b1, b2, b3⟩ := law89 bs (p + 1) 3 hb (by omega) (by omega) (by omega)
  obtain ⟨c1, c2, c3⟩ := law89 bs (p + 1) 9 hb (by omega) (by omega) (by omega)
  obtain ⟨d1, d2, d3⟩ := law89 bs (p + 1) 5 hb (by omega) (by omega) (by omega)
  rw [show p + 1 + 1 = p + 2 by omega] at b1 c1 d1
  have b4 := b3 (by omega)
  have c4 := c3 (by omega)
  have d4 := d3 (by omega)
  obtain ⟨w', p', e1, e2, e3, e4⟩ := law144 bs (p + 1) r.want hb (by omega) (by omega) hr.want
  obtain ⟨hr1, hr2, hr3, hr4, hr5⟩ := hr
  simp only [rdBox, Want.c] at a1 b1 c1 d1 e1 ⊢
  by_cases k0 : pickV bs p 6 = 0
  · refine ⟨{ r with want := w' }, p', F_run fn88 rfl ?_, by omega, by omega, ⟨e4, hr2, hr3, hr4, hr5⟩⟩
    simp [c88, a1, k0, e1]
  by_cases k1 : pickV bs p 6 = 1
  · have hu : IntKind.i64.wrap (pickV bs (p + 1) 9 - 1) = pickV bs (p + 1) 9 - 1 := i64w (by omega) (by omega)
    refine ⟨{ r with state := pickV bs (p + 1) 9 - 1 }, p + 2, F_run fn88 rfl ?_, by omega, by omega, ⟨hr1, ⟨by simp only; omega, by simp only; omega⟩, hr3, hr4, hr5⟩⟩
    simp [c88, a1, k0, k1, c1, hu]
  by_cases k2 : pickV bs p 6 = 2
  · refine ⟨{ r with left := selI [-1, 100, 101] (pickV bs (p + 1) 3) }, p + 2, F_run fn88 rfl ?_, by omega, by omega, ⟨hr1, hr2, selI_tame (by simp [tame]) _, hr4, hr5⟩⟩
    simp [c88, a1, k0, k1, k2, b1, b2, b4]
  by_cases k3 : pickV bs p 6 = 3
  · refine ⟨{ r with falls := selI [-1, 1000, 1001] (pickV bs (p + 1) 3) }, p + 2, F_run fn88 rfl ?_, by omega, by omega, ⟨hr1, hr2, hr3, selI_tame (by simp [tame]) _, hr5⟩⟩
    simp [c88, a1, k0, k1, k2, k3, b1, b2, b4]
  by_cases k4 : pickV bs p 6 = 4
  · refine ⟨{ r with til := selI [-1, 0, 1, 1000016, 1000017] (pickV bs (p + 1) 5) }, p + 2, F_run fn88 rfl ?_, by omega, by omega, ⟨hr1, hr2, hr3, hr4, selI_tame (by simp [tame]) _⟩⟩
    simp [c88, a1, k0, k1, k2, k3, k4, d1, d2, d4]
  · obtain ⟨g1, g2, g3, g4, g5, g6, g7⟩ := hr1
    refine ⟨{ r with want := { r.want with hold := ⟨#[]⟩ } }, p + 1, F_run fn88 rfl ?_, by omega, by omega, ⟨⟨g1, g2, inS_mem (by simp), g4, g5, g6, g7⟩, hr2, hr3, hr4, hr5⟩⟩
    simp [c88, a1, k0, k1, k2, k3, k4]
theorem Code.take {bs : List Int} (h : ∀ b ∈ bs, 0 ≤ b ∧ b ≤ 255) : Code (bs.take 2000) := ⟨by rw [List.length_take]; omega, fun b hb => h b (List.mem_of_mem_take hb)⟩

def Want.zero : Want := ⟨⟨#[]⟩, 0, ⟨#[]⟩, 0, 0, 0, 0⟩
theorem Want.zero_tame : Want.zero.tame := ⟨Nat.zero_le _, ⟨by decide, by decide⟩, inS_mem (by simp [Want.zero]), ⟨by decide, by decide⟩, ⟨by decide, by decide⟩, ⟨by decide, by decide⟩, ⟨by decide, by decide⟩⟩

end Go.Proofs.YtpiljklnekefoaaGreatDoor

namespace Go.Proofs.YtpiljklnekefoaaGreatDoor
open Go

def Ends {ρ : Type} (o : Option ρ) (Q : ρ → Prop) : Prop := ∃ r, o = some r ∧ Q r
@[simp] theorem Ends_some {ρ : Type} (r : ρ) (Q : ρ → Prop) : Ends (some r) Q ↔ Q r := by
  unfold Ends
  constructor
  · rintro ⟨s, h, k⟩; cases h; exact k
  · exact fun k => ⟨r, rfl, k⟩
theorem Ends.mono {ρ : Type} {o : Option ρ} {Q Q' : ρ → Prop} (h : Ends o Q) (k : ∀ r, Q r → Q' r) : Ends o Q' := by
  obtain ⟨r, h1, h2⟩ := h
  exact ⟨r, h1, k r h2⟩

theorem F_ends {k : Nat} {c : CFn} {args : List AV} {objs : List AO} {Q : AV × List (Option AO) → Prop} (hc : P.fn k = some c) (hl : Nat.ble args.length c.nt = true)
    (h : Ends (fin c.res objs.length (X F [.code c.body] (.normal, ⟨startSlots args 0, startHeap objs 0, 0, objs.length, objs.length⟩))) Q) : Ends (F k args objs) Q := by
  obtain ⟨r, h1, h2⟩ := h
  exact ⟨r, F_run hc hl h1, h2⟩

open Classical in
theorem loop_end {cl : Callee} {ρ σ : Type} {K : Option (AExit × St) → Option ρ} {keep : List Nat} {b : CCode} {fs : List Fr} {Q : ρ → Prop} (H : σ → St) (Inv : σ → Prop) (μ : σ → Nat)
    (step : ∀ x Y, Inv x → (∀ y s', Inv y → μ y < μ x → s'.norm keep = H y → Ends (K (Y s')) Q) → Ends (K (X cl (.code b :: .back Y :: fs) (.normal, H x))) Q)
    (x : σ) {s : St} (hs : s.norm keep = H x) (hi : Inv x) (hm : μ x < big) : Ends (K (X cl (.code (.loop keep b) :: fs) (.normal, s))) Q := by
  have h := loop_by (cl := cl) (K := fun o => if Ends (K o) Q then some () else none) (keep := keep) (b := b) (fs := fs) H Inv μ (fun _ => ()) (fun x Y hx hY => by
    have := step x Y hx (fun y s' h1 h2 h3 => by
      have h4 := hY y s' h1 h2 h3
      split at h4
      · assumption
      · cases h4)
    exact if_pos this) x hs hi hm
  split at h
  · assumption
  · cases h
end Go.Proofs.YtpiljklnekefoaaGreatDoor

namespace Go.Proofs.YtpiljklnekefoaaGreatDoor
open Go
set_option linter.unusedSimpArgs false
set_option maxRecDepth 100000

def digit (d : Nat) : T := ⟨#[48 + UInt8.ofNat d]⟩
def dec (n : Nat) : T := if _h : n < 10 then digit n else dec (n / 10) ++ digit (n % 10)
termination_by n
decreasing_by omega

theorem u8w {d : Nat} (h : d < 10) : IntKind.u8.wrap (IntKind.i64.wrap (48 + (d : Int))) = 48 + (d : Int) := by
  rw [i64w (by omega) (by omega)]
  simp [IntKind.wrap, IntKind.signed, IntKind.bits]
  omega

theorem dec_size : ∀ (j n : Nat), n < 10 ^ (j + 1) → (dec n).size ≤ j + 1
  | 0, n, h => by
    rw [dec, dif_pos (by omega)]
    exact Nat.le_refl _
  | j + 1, n, h => by
    rw [dec]
    split
    · show 1 ≤ _; omega
    · rw [app_size]
      have := dec_size j (n / 10) (Nat.div_lt_of_lt_mul (by rw [Nat.pow_succ] at h; omega))
      have e : (digit (n % 10)).size = 1 := rfl
      omega

theorem law140 (n : Nat) (hn : n < 1000000000000000000) : F 140 [.int .i64 n] [] = some (.str (dec n), []) := by
  induction n using Nat.strongRecOn with
  | ind n ih =>
    refine F_run fn140 rfl ?_
    rw [dec]
    by_cases h : n < 10
    · have hI : (n : Int) < 10 := by omega
      have hu := u8w h
      have ht : (48 + (n : Int)).toNat = 48 + n := by omega
      simp [c140, h, hI, toBytes, hu, digit, ht]
    · have hI : ¬ (n : Int) < 10 := by omega
      have w := ih (n / 10) (by omega) (by omega)
      have hs := dec_size 18 (n / 10) (by omega)
      have hd := Nat.mod_lt n (show 0 < 10 by omega)
      obtain ⟨q, hq⟩ : ∃ q, q = n / 10 := ⟨_, rfl⟩
      obtain ⟨d, hdd⟩ : ∃ d, d = n % 10 := ⟨_, rfl⟩
      have hm : Int.tmod (n : Int) 10 = (d : Int) := by rw [Int.tmod_eq_emod_of_nonneg (by omega)]; omega
      have hm2 : (n : Int) % 10 = (d : Int) := by omega
      have hq2 : (n : Int) / 10 = (q : Int) := by omega
      have hq3 : IntKind.i64.wrap (q : Int) = (q : Int) := i64w (by omega) (by omega)
      rw [← hq] at w hs ⊢
      rw [← hdd] at hd ⊢
      have hu := u8w hd
      have ht : (48 + (d : Int)).toNat = 48 + d := by omega
      have hs2 : (dec q).size + (⟨#[48 + UInt8.ofNat d]⟩ : T).size ≤ 9223372036854775807 := by
        have : (⟨#[48 + UInt8.ofNat d]⟩ : T).size = 1 := rfl
        omega
      simp [c140, h, hI, toBytes, hm, hm2, hq2, hq3, hu, digit, ht, w, hs2]

theorem cName_size {i : Nat} (h : i < 1000) : ((⟨#[99]⟩ : T) ++ dec i).size ≤ 1000 := by
  rw [app_size]
  have := dec_size 3 i (by omega)
  have e : (⟨#[99]⟩ : T).size = 1 := rfl
  omega

/-! ### Lists of wants and of runs -/
def head145 (bs : List Int) (p : Int) (ws : List Want) (i : Nat) : St := hd [(0, .ptr 0 0 0), (3, .ref 1), (4, .int .i64 i)] [rdBox bs p, .arr 7 (ws.map Want.c)] 1

def Drew (bs : List Int) (p n : Int) (v : AV → Prop) (r : AV × List (Option AO)) : Prop := ∃ x p', r = (x, [some (rdBox bs p')]) ∧ p ≤ p' ∧ p' ≤ p + n ∧ v x

theorem law145 (bs : List Int) (p : Int) (hb : Code bs) (h0 : 0 ≤ p) (hp : p ≤ 1000000000) :
    Ends (F 145 [.ptr 0 0 0] [rdBox bs p]) (Drew bs p 28 fun x => ∃ ws : List Want, x = .sl .own 7 (ws.map Want.c) ∧ ws.length ≤ 4 ∧ ∀ w ∈ ws, Want.tame w) := by
  refine F_ends fn145 rfl ?_
  simp [c145]
  refine loop_end (σ := Nat × Int × List Want) (fun z => head145 bs z.2.1 z.2.2 z.1) (fun z => z.1 ≤ 4 ∧ p ≤ z.2.1 ∧ z.2.1 ≤ p + 7 * z.1 ∧ z.2.2.length ≤ z.1 ∧ ∀ w ∈ z.2.2, Want.tame w) (fun z => 4 - z.1) (fun z Y hinv hY => ?_) (0, p, []) ?_ ⟨by omega, by simp, by simp, by simp, by simp⟩ (by unfold big; simp)
  · obtain ⟨i, q, ws⟩ := z
    obtain ⟨h1, h2, h3, h4, h5⟩ := hinv
    simp only at h1 h2 h3 h4 h5 hY ⊢
    by_cases hi : i < 4
    · have hiI : (i : Int) < 4 := by omega
      have hw : IntKind.i64.wrap ((i : Int) + 1) = (i : Int) + 1 := i64w (by omega) (by omega)
      obtain ⟨a1, a2, a3⟩ := law89 bs q 2 hb (by omega) (by omega) (by omega)
      have d1 := law140 i (by omega)
      have d2 := cName_size (i := i) (by omega)
      have d3 : (⟨#[99]⟩ : T).size + (dec i).size ≤ 9223372036854775807 := by rw [app_size] at d2; omega
      have b1 := law87 bs (q + 1) (⟨#[99]⟩ ++ dec i) hb (by omega) (by omega)
      rw [show q + 1 + 6 = q + 7 by omega] at b1
      have b2 := drawWant_tame (p := q + 1) (copy := ⟨#[99]⟩ ++ dec i) hb (by omega) (by omega) d2
      generalize drawWant bs (q + 1) (⟨#[99]⟩ ++ dec i) = w at b1 b2
      have c1 := law7 (ws ++ [w]) (by unfold big; simp; omega)
      have e1 : ws.length * 72 ≤ 140737488355328 := by omega
      have e2 : ws.length ≤ 140737488355328 := by omega
      have e3 : (ws.length + 1) * 72 ≤ 140737488355328 := by omega
      have e4 : ws.length + 1 ≤ 140737488355328 := by omega
      simp only [rdBox, Want.c] at a1 b1
      simp at c1
      by_cases k0 : pickV bs q 2 = 0
      · cases k1 : wantsOk (ws ++ [w])
        · rw [k1] at c1
          simp [head145, rdBox, c145b0, hiI, a1, k0, d1, d3, b1, takeRows, rowsPlain, e1, e2, e3, e4, c1]
          refine hY (i + 1, q + 7, ws) _ ⟨by omega, by simp only; omega, by simp only; omega, by simp only; omega, h5⟩ (by simp only; omega) ?_
          simp [head145, rdBox, hw]
        · rw [k1] at c1
          simp [head145, rdBox, c145b0, hiI, a1, k0, d1, d3, b1, takeRows, rowsPlain, e1, e2, e3, e4, c1]
          refine hY (i + 1, q + 7, ws ++ [w]) _ ⟨by omega, by simp only; omega, by simp only; omega, by simp; omega, ?_⟩ (by simp only; omega) ?_
          · intro x hx
            rcases List.mem_append.1 hx with hx | hx
            · exact h5 x hx
            · rw [List.mem_singleton.1 hx]; exact b2
          · simp [head145, rdBox, hw]
      · simp [head145, rdBox, c145b0, hiI, a1, k0]
        refine hY (i + 1, q + 1, ws) _ ⟨by omega, by simp only; omega, by simp only; omega, by simp only; omega, h5⟩ (by simp only; omega) ?_
        simp [head145, rdBox, hw]
    · have hiI : ¬ (i : Int) < 4 := by omega
      simp [head145, rdBox, c145b0, hiI]
      exact ⟨_, q, rfl, by omega, by omega, ws, rfl, by omega, h5⟩
  · simp [head145, rdBox]
def head162 (bs : List Int) (p clock : Int) (ok : Bool) (rs : List Run) (i : Nat) : St := hd [(0, .ptr 0 0 0), (1, .int .i64 clock), (2, .bool ok), (7, .ref 1), (8, .int .i64 i)] [rdBox bs p, .arr 11 (rs.map Run.c)] 1

theorem law162 (bs : List Int) (p clock : Int) (ok : Bool) (hb : Code bs) (h0 : 0 ≤ p) (hp : p ≤ 1000000000) (hk : 0 ≤ clock ∧ clock ≤ 10000000) :
    Ends (F 162 [.ptr 0 0 0, .int .i64 clock, .bool ok] [rdBox bs p]) (Drew bs p 44 fun x => ∃ rs : List Run, x = .sl .own 11 (rs.map Run.c) ∧ rs.length ≤ 4 ∧ ∀ r ∈ rs, Run.tame r) := by
  refine F_ends fn162 rfl ?_
  simp [c162]
  refine loop_end (σ := Nat × Int × List Run) (fun z => head162 bs z.2.1 clock ok z.2.2 z.1) (fun z => z.1 ≤ 4 ∧ p ≤ z.2.1 ∧ z.2.1 ≤ p + 11 * z.1 ∧ z.2.2.length ≤ z.1 ∧ ∀ w ∈ z.2.2, Run.tame w) (fun z => 4 - z.1) (fun z Y hinv hY => ?_) (0, p, []) ?_ ⟨by omega, by simp, by simp, by simp, by simp⟩ (by unfold big; simp)
  · obtain ⟨i, q, rs⟩ := z
    obtain ⟨h1, h2, h3, h4, h5⟩ := hinv
    simp only at h1 h2 h3 h4 h5 hY ⊢
    by_cases hi : i < 4
    · have hiI : (i : Int) < 4 := by omega
      have hw : IntKind.i64.wrap ((i : Int) + 1) = (i : Int) + 1 := i64w (by omega) (by omega)
      obtain ⟨a1, a2, a3⟩ := law89 bs q 2 hb (by omega) (by omega) (by omega)
      have d1 := law140 i (by omega)
      have d2 := cName_size (i := i) (by omega)
      have d3 : (⟨#[99]⟩ : T).size + (dec i).size ≤ 9223372036854775807 := by rw [app_size] at d2; omega
      obtain ⟨x, q', b1, b2, b3, b4⟩ := law90 bs (q + 1) (⟨#[99]⟩ ++ dec i) clock hb (by omega) (by omega) d2 hk
      have e1 : rs.length * 104 ≤ 140737488355328 := by omega
      have e2 : rs.length ≤ 140737488355328 := by omega
      have e3 : (rs.length + 1) * 104 ≤ 140737488355328 := by omega
      have e4 : rs.length + 1 ≤ 140737488355328 := by omega
      have hall : ∀ y, Run.tame y → ∀ z ∈ rs ++ [y], Run.tame z := by
        intro y hy z hz
        rcases List.mem_append.1 hz with hz | hz
        · exact h5 z hz
        · rw [List.mem_singleton.1 hz]; exact hy
      simp only [rdBox, Run.c] at a1 b1
      by_cases k0 : pickV bs q 2 = 0
      · by_cases k1 : ok = true ∧ runOk x clock = false
        · obtain ⟨k1, k2⟩ := k1
          subst k1
          simp [head162, rdBox, c162b0, hiI, a1, k0, d1, d3, b1, takeRows, rowsPlain, e1, e2, e3, e4, k2]
          refine hY (i + 1, q', rs ++ [{ x with state := 2, left := 0 }]) _ ⟨by omega, by simp only; omega, by simp only; omega, by simp; omega, hall _ ⟨b4.want, ⟨by simp, by simp⟩, ⟨by simp, by simp⟩, b4.falls, b4.til⟩⟩ (by simp only; omega) ?_
          simp [head162, rdBox, hw]
        · cases ok
          · simp [head162, rdBox, c162b0, hiI, a1, k0, d1, d3, b1, takeRows, rowsPlain, e1, e2, e3, e4]
            refine hY (i + 1, q', rs ++ [x]) _ ⟨by omega, by simp only; omega, by simp only; omega, by simp; omega, hall _ b4⟩ (by simp only; omega) ?_
            simp [head162, rdBox, hw]
          · have k2 : runOk x clock = true := by
              cases h : runOk x clock
              · exact absurd ⟨rfl, h⟩ k1
              · rfl
            simp [head162, rdBox, c162b0, hiI, a1, k0, d1, d3, b1, takeRows, rowsPlain, e1, e2, e3, e4, k2]
            refine hY (i + 1, q', rs ++ [x]) _ ⟨by omega, by simp only; omega, by simp only; omega, by simp; omega, hall _ b4⟩ (by simp only; omega) ?_
            simp [head162, rdBox, hw]
      · simp [head162, rdBox, c162b0, hiI, a1, k0]
        refine hY (i + 1, q + 1, rs) _ ⟨by omega, by simp only; omega, by simp only; omega, by simp only; omega, h5⟩ (by simp only; omega) ?_
        simp [head162, rdBox, hw]
    · have hiI : ¬ (i : Int) < 4 := by omega
      simp [head162, rdBox, c162b0, hiI]
      exact ⟨_, q, rfl, by omega, by omega, rs, rfl, by omega, h5⟩
  · simp [head162, rdBox]
end Go.Proofs.YtpiljklnekefoaaGreatDoor

namespace Go.Proofs.YtpiljklnekefoaaGreatDoor
open Go
set_option linter.unusedSimpArgs false
set_option maxRecDepth 100000

def findW (l : List Want) (n : T) : Option Want := l.find? fun w => sEq w.copy n

def head161 (ws : List Want) (n : T) (i : Nat) : St := hd [(0, .sl .bor 7 (ws.map Want.c)), (1, .str n), (4, .ptr 0 0 0), (6, .int .i64 i)] [.box Want.zero.c] 0

theorem law161 (ws : List Want) (n : T) (hl : ws.length < big) : F 161 [.sl .bor 7 (ws.map Want.c), .str n] [] = some (.tup [.agg ((findW ws n).getD .zero).c, .bool (findW ws n).isSome], []) := by
  refine F_run fn161 rfl ?_
  have hm : ws.length ≤ 9223372036854775807 := by unfold big at hl; omega
  simp [c161]
  refine (loop_list ws (fun i (_ : Unit) => head161 ws n i) (fun _ _ => True) (fun _ r l => (AV.tup [.agg ((findW r n).getD .zero).c, .bool (findW r n).isSome], ([] : List (Option AO)))) (fun acc Y _ => ?_) (fun i a r acc Y ha hi hr _ hY => ?_) () ?_ trivial ?_).trans rfl
  · simp [head161, c161b0, findW, Want.zero]
  · have hw : IntKind.i64.wrap ((i : Int) + 1) = (i : Int) + 1 := i64w (by omega) (by omega)
    obtain ⟨_, hg⟩ := List.getElem?_eq_some_iff.1 ha
    cases q : sEq a.copy n
    · simp [head161, c161b0, hi, hg, findW, Want.zero, q]
      refine hY () _ trivial ?_
      simp [head161, hw, Want.zero]
    · simp [head161, c161b0, hi, hg, findW, Want.zero, q]
  · simp [head161, Want.zero]
  · exact hl

theorem findW_tame {l : List Want} (h : ∀ w ∈ l, w.tame) (n : T) : ((findW l n).getD .zero).tame := by
  cases e : findW l n with
  | none => exact Want.zero_tame
  | some w => exact h w (List.mem_of_find?_eq_some e)

structure Ask.tame (a : Ask) : Prop where
  hold : inS a.hold = true
  copy : a.copy.size ≤ 1000
  first : YtpiljklnekefoaaGreatDoor.tame a.first
  at_ : YtpiljklnekefoaaGreatDoor.tame a.at_
structure Mate.tameN (k : Nat) (m : Mate) : Prop where
  name : m.name.size ≤ 1000
  clock : YtpiljklnekefoaaGreatDoor.tame m.clock
  seen : YtpiljklnekefoaaGreatDoor.tame m.seen
  nwants : m.wants.length ≤ k
  wants : ∀ w ∈ m.wants, w.tame
  nruns : m.runs.length ≤ k
  runs : ∀ r ∈ m.runs, r.tame
  nasks : m.asks.length ≤ k
  asks : ∀ a ∈ m.asks, a.tame
  ngives : m.gives.length ≤ k
  gives : ∀ a ∈ m.gives, a.tame
abbrev Mate.tame (m : Mate) : Prop := m.tameN 10
theorem Mate.tameN.up {k k' : Nat} {m : Mate} (h : m.tameN k) (hk : k ≤ k') : m.tameN k' :=
  ⟨h.name, h.clock, h.seen, Nat.le_trans h.nwants hk, h.wants, Nat.le_trans h.nruns hk, h.runs, Nat.le_trans h.nasks hk, h.asks, Nat.le_trans h.ngives hk, h.gives⟩
theorem Mate.tameN.small {k : Nat} {m : Mate} (h : m.tameN k) (hk : k ≤ 1000) : m.small := by
  obtain ⟨_, _, _, h1, _, h2, _, h3, _, h4, _⟩ := h
  exact ⟨by omega, by omega, by omega, by omega⟩

theorem selN3 (a b c : T) {k : Nat} (h : k < [[AV.str a], [.str b], [.str c]].length) : [[AV.str a], [.str b], [.str c]][k]'h = [.str ([a, b, c].getD k ⟨#[]⟩)] := by
  rcases k with _ | _ | _ | k <;> first | rfl | (simp at h; omega)

def wn (wk : Bool) : Nat := if wk then 1 else 0
def an (l : List Ask) : Nat := if l = [] then 0 else 1
def cellsB (n : Nat) (wk : Bool) (m : Mate) : List AV :=
  [.str m.name, .bool m.up, .int .i64 m.clock, .bool m.known, .int .i64 m.seen, if wk then .ref n else .sl .own 7 [], .ref (n + wn wk), ownVi (n + wn wk + 1) 4 (m.asks.map Ask.c), ownVi (n + wn wk + 1 + an m.asks) 4 (m.gives.map Ask.c)]
def arrsB (wk : Bool) (m : Mate) : List AO := (if wk then [.arr 7 (m.wants.map Want.c)] else []) ++ .arr 11 (m.runs.map Run.c) :: (ownH 4 (m.asks.map Ask.c) ++ ownH 4 (m.gives.map Ask.c))

def head156b (bs : List Int) (p : Int) (wk : Bool) (m : Mate) (i : Nat) : St :=
  hd [(0, .ptr 0 0 0), (2, .ptr 1 0 0), (3, .ptr 2 0 0), (7, .int .i64 i)] (rdBox bs p :: .box zeroCells :: .box (cellsB 3 wk m) :: arrsB wk m) 1
def head156c (bs : List Int) (p : Int) (wk : Bool) (m : Mate) (i : Nat) (a : Ask) (j : Nat) : St :=
  hd [(0, .ptr 0 0 0), (2, .ptr 1 0 0), (3, .ptr 2 0 0), (7, .int .i64 i), (8, .ptr 3 0 0), (9, .int .i64 j)] (rdBox bs p :: .box zeroCells :: .box (cellsB 4 wk m) :: .box a.c :: arrsB wk m) 1

theorem hp_get : ∀ (os : List AO) (n j : Nat), YtpiljklnekefoaaGreatDoor.hp os n (n + j) = os[j]?
  | [], n, j => by simp [YtpiljklnekefoaaGreatDoor.hp]
  | o :: os, n, 0 => by simp [YtpiljklnekefoaaGreatDoor.hp, upd]
  | o :: os, n, j + 1 => by
    have h := hp_get os (n + 1) j
    rw [show n + 1 + j = n + (j + 1) by omega] at h
    have e : ¬ (n + (j + 1) = n) := by omega
    simp [YtpiljklnekefoaaGreatDoor.hp, upd, h, e]

theorem mem_snoc {α : Type} {l : List α} {P : α → Prop} (h : ∀ x ∈ l, P x) {y : α} (hy : P y) : ∀ x ∈ l ++ [y], P x := by
  intro x hx
  rcases List.mem_append.1 hx with hx | hx
  · exact h x hx
  · rw [List.mem_singleton.1 hx]; exact hy

structure Mid (bs : List Int) (q : Int) (wk : Bool) (m : Mate) (i : Nat) (a : Ask) (s : St) : Prop where
  s0 : s.slots 0 = .ptr 0 0 0
  s2 : s.slots 2 = .ptr 1 0 0
  s3 : s.slots 3 = .ptr 2 0 0
  s7 : s.slots 7 = .int .i64 i
  s8 : s.slots 8 = .ptr 3 0 0
  h0 : s.heap 0 = some (rdBox bs q)
  h1 : s.heap 1 = some (.box zeroCells)
  h2 : s.heap 2 = some (.box (cellsB 4 wk m))
  h3 : s.heap 3 = some (.box a.c)
  hx : ∀ k, k < 5 → s.heap (4 + k) = (arrsB wk m)[k]?
  nx : 100 ≤ s.next
  base : s.base = 1

def codeEnd : CCode := (.seq (.region [⟨some 160, .mov (.tmp 0), none⟩, ⟨some 161, .call 89 [true, false] [.tmp 160, .const (.int .i64 4)], none⟩] [0, 2, 3, 7, 8, 161])
  (.block 6 (.seq (.seq (.region [⟨some 163, .bin .eql (.tmp 161) (.const (.int .i64 0)), none⟩, ⟨some 162, .mov (.tmp 163), none⟩] [0, 2, 3, 7, 8, 161, 162]) (.cond (.tmp 162) .skip (.region [⟨some 164, .bin .eql (.tmp 161) (.const (.int .i64 1)), none⟩, ⟨some 162, .mov (.tmp 164), none⟩] [0, 2, 3, 7, 8, 161, 162])))
    (.cond (.tmp 162) (.region [⟨some 165, .faddr (.tmp 3) 7, none⟩, ⟨some 166, .load (.tmp 165) 1 false .plain, none⟩, ⟨some 167, .load (.tmp 8) 4 true .plain, none⟩, ⟨some 168, .bslice 4 [.str ⟨#[]⟩, .str ⟨#[]⟩, .int .i64 0, .int .i64 0] 1 [(0, .tmp 167)], none⟩, ⟨some 169, .append 4 48 true (.tmp 166) (.tmp 168), none⟩, ⟨some 170, .faddr (.tmp 3) 7, none⟩, ⟨none, .store (.tmp 170) (.tmp 169) 1, none⟩] [0, 2, 3, 7])
      (.seq (.region [⟨some 172, .bin .eql (.tmp 161) (.const (.int .i64 2)), none⟩, ⟨some 171, .mov (.tmp 172), none⟩] [0, 2, 3, 7, 8, 171])
        (.cond (.tmp 171) (.region [⟨some 173, .faddr (.tmp 3) 8, none⟩, ⟨some 174, .load (.tmp 173) 1 false .plain, none⟩, ⟨some 175, .load (.tmp 8) 4 true .plain, none⟩, ⟨some 176, .bslice 4 [.str ⟨#[]⟩, .str ⟨#[]⟩, .int .i64 0, .int .i64 0] 1 [(0, .tmp 175)], none⟩, ⟨some 177, .append 4 48 true (.tmp 174) (.tmp 176), none⟩, ⟨some 178, .faddr (.tmp 3) 8, none⟩, ⟨none, .store (.tmp 178) (.tmp 177) 1, none⟩] [0, 2, 3, 7]) .skip))))))

theorem draw_end {Q : AV × List (Option AO) → Prop} {Y : St → Option (AExit × St)} {fs2 : List Fr} (bs : List Int) (q : Int) (wk : Bool) (m : Mate) (i : Nat) (a : Ask) (hb : Code bs) (h0 : 0 ≤ q) (hq : q ≤ 10000000000) (hi : i < 3) (hA : m.asks.length ≤ 3) (hG : m.gives.length ≤ 3)
    (hY : ∀ m' s', (m' = m ∨ m' = { m with asks := m.asks ++ [a] } ∨ m' = { m with gives := m.gives ++ [a] }) → s'.norm [0, 2, 3, 7] = head156b bs (q + 1) wk m' (i + 1) → Ends (fin [CRes.cell 2 9 true] 1 (Y s')) Q) (s : St) (hs : Mid bs q wk m i a s) :
    Ends (fin [CRes.cell 2 9 true] 1 (X F (.code codeEnd :: .blk 3 :: .code (.region [⟨some 100, .mov (.tmp 7), none⟩, ⟨some 101, .bin .add (.tmp 100) (.const (.int .i64 1)), none⟩, ⟨some 7, .mov (.tmp 101), none⟩] [0, 2, 3, 7]) :: .back Y :: fs2) (.normal, s))) Q := by
  obtain ⟨s0, s2, s3, s7, s8, g0, g1, g2, g3, gx, nx0, base⟩ := hs
  obtain ⟨n, nx⟩ : ∃ n, s.next = n + 100 := ⟨s.next - 100, by omega⟩
  obtain ⟨a1, a2, a3⟩ := law89 bs q 4 hb h0 (by omega) (by omega)
  have hw : IntKind.i64.wrap ((i : Int) + 1) = (i : Int) + 1 := i64w (by omega) (by omega)
  simp only [rdBox] at a1 g0
  have gx4 := gx 0 (by omega)
  have gx5 := gx 1 (by omega)
  have gx6 := gx 2 (by omega)
  have gx7 := gx 3 (by omega)
  have e3 : (m.asks.length + 1) * 48 ≤ 140737488355328 := by omega
  have e4 : m.asks.length + 1 ≤ 140737488355328 := by omega
  have e5 : (m.gives.length + 1) * 48 ≤ 140737488355328 := by omega
  have e6 : m.gives.length + 1 ≤ 140737488355328 := by omega
  by_cases k0 : pickV bs q 4 = 0 ∨ pickV bs q 4 = 1
  · cases wk <;> rcases hAA : m.asks with _ | ⟨x, as⟩ <;> rcases hGG : m.gives with _ | ⟨y, gs⟩ <;> rw [hAA] at e3 e4 <;> rcases k0 with k0 | k0 <;>
    · simp [arrsB, hAA, hGG] at gx4 gx5 gx6 gx7
      simp at e3 e4
      simp [codeEnd, s0, s2, s3, s7, s8, g0, g1, g2, g3, gx4, gx5, gx6, gx7, nx, base, a1, k0, cellsB, wn, an, hAA, hGG, takeRows, rowsPlain, e3, e4]
      refine hY { m with asks := m.asks ++ [a] } _ (.inr (.inl rfl)) ?_
      simp [head156b, rdBox, cellsB, zeroCells, arrsB, wn, an, hAA, hGG, hw, g1, g2, gx4, gx5, gx6, gx7, base]
  by_cases k2 : pickV bs q 4 = 2
  · cases wk <;> rcases hAA : m.asks with _ | ⟨x, as⟩ <;> rcases hGG : m.gives with _ | ⟨y, gs⟩ <;> rw [hGG] at e5 e6 <;>
    · simp [arrsB, hAA, hGG] at gx4 gx5 gx6 gx7
      simp at e5 e6
      simp [codeEnd, s0, s2, s3, s7, s8, g0, g1, g2, g3, gx4, gx5, gx6, gx7, nx, base, a1, k2, cellsB, wn, an, hAA, hGG, takeRows, rowsPlain, e5, e6]
      refine hY { m with gives := m.gives ++ [a] } _ (.inr (.inr rfl)) ?_
      simp [head156b, rdBox, cellsB, zeroCells, arrsB, wn, an, hAA, hGG, hw, g1, g2, gx4, gx5, gx6, gx7, base]
  · have k0a : ¬ pickV bs q 4 = 0 := fun h => k0 (.inl h)
    have k0b : ¬ pickV bs q 4 = 1 := fun h => k0 (.inr h)
    cases wk <;> rcases hAA : m.asks with _ | ⟨x, as⟩ <;> rcases hGG : m.gives with _ | ⟨y, gs⟩ <;>
    · simp [arrsB, hAA, hGG] at gx4 gx5 gx6 gx7
      simp [codeEnd, s0, s2, s3, s7, s8, g0, g1, g2, g3, nx, base, a1, k0a, k0b, k2]
      refine hY m _ (.inl rfl) ?_
      simp [head156b, rdBox, cellsB, zeroCells, arrsB, wn, an, hAA, hGG, hw, g1, g2, gx4, gx5, gx6, gx7, base]

def codeD : CCode := .seq (.loud [⟨some 150, .faddr (.tmp 8) 3, none⟩, ⟨some 151, .load (.tmp 150) 1 false .plain, none⟩, ⟨some 152, .mov (.tmp 0), none⟩, ⟨some 153, .call 89 [true, false] [.tmp 152, .const (.int .i64 6)], none⟩, ⟨some 154, .bin .sub (.tmp 151) (.tmp 153), none⟩, ⟨some 155, .faddr (.tmp 8) 2, none⟩, ⟨none, .store (.tmp 155) (.tmp 154) 1, none⟩] [0, 1, 0, 4, 15, 31, 63] [0, 2, 3, 7, 8])
  (.seq (.seq (.region [⟨some 156, .faddr (.tmp 8) 2, none⟩, ⟨some 157, .load (.tmp 156) 1 false .plain, none⟩, ⟨some 158, .bin .lss (.tmp 157) (.const (.int .i64 0)), none⟩] [0, 2, 3, 7, 8, 158]) (.cond (.tmp 158) (.region [⟨some 159, .faddr (.tmp 8) 2, none⟩, ⟨none, .store (.tmp 159) (.const (.int .i64 0)) 1, none⟩] [0, 2, 3, 7, 8]) .skip)) codeEnd)
def codeC : CCode := .seq (.seq (.region [⟨some 146, .faddr (.tmp 8) 3, none⟩, ⟨some 147, .load (.tmp 146) 1 false .plain, none⟩, ⟨some 148, .bin .lss (.tmp 147) (.const (.int .i64 0)), none⟩] [0, 2, 3, 7, 8, 148]) (.cond (.tmp 148) (.region [⟨some 149, .faddr (.tmp 8) 3, none⟩, ⟨none, .store (.tmp 149) (.const (.int .i64 0)) 1, none⟩] [0, 2, 3, 7, 8]) .skip)) codeD

def askFix (a : Ask) (x : Int) : Ask :=
  let t := if a.at_ < 0 then 0 else a.at_
  { a with at_ := t, first := if t - x < 0 then 0 else t - x }

theorem draw_rest {Q : AV × List (Option AO) → Prop} {Y : St → Option (AExit × St)} {fs2 : List Fr} (bs : List Int) (q : Int) (wk : Bool) (m : Mate) (i : Nat) (a : Ask) (hb : Code bs) (h0 : 0 ≤ q) (hq : q ≤ 2000000000) (hi : i < 3) (hA : m.asks.length ≤ 3) (hG : m.gives.length ≤ 3) (hat : tame a.at_)
    (hY : ∀ m' s', (m' = m ∨ m' = { m with asks := m.asks ++ [askFix a (pickV bs q 6)] } ∨ m' = { m with gives := m.gives ++ [askFix a (pickV bs q 6)] }) → s'.norm [0, 2, 3, 7] = head156b bs (q + 2) wk m' (i + 1) → Ends (fin [CRes.cell 2 9 true] 1 (Y s')) Q) (s : St) (hs : Mid bs q wk m i a s) :
    Ends (fin [CRes.cell 2 9 true] 1 (X F (.code codeC :: .blk 3 :: .code (.region [⟨some 100, .mov (.tmp 7), none⟩, ⟨some 101, .bin .add (.tmp 100) (.const (.int .i64 1)), none⟩, ⟨some 7, .mov (.tmp 101), none⟩] [0, 2, 3, 7]) :: .back Y :: fs2) (.normal, s))) Q := by
  obtain ⟨s0, s2, s3, s7, s8, g0, g1, g2, g3, gx, nx0, base⟩ := hs
  obtain ⟨n, nx⟩ : ∃ n, s.next = n + 100 := ⟨s.next - 100, by omega⟩
  obtain ⟨a1, a2, a3⟩ := law89 bs q 6 hb h0 (by omega) (by omega)
  have a4 := a3 (by omega)
  obtain ⟨t1, t2⟩ := hat
  simp only [rdBox] at a1 g0
  have fin' : ∀ (a' : Ask), a' = askFix a (pickV bs q 6) → ∀ s', Mid bs (q + 1) wk m i a' s' → Ends (fin [CRes.cell 2 9 true] 1 (X F (.code codeEnd :: .blk 3 :: .code (.region [⟨some 100, .mov (.tmp 7), none⟩, ⟨some 101, .bin .add (.tmp 100) (.const (.int .i64 1)), none⟩, ⟨some 7, .mov (.tmp 101), none⟩] [0, 2, 3, 7]) :: .back Y :: fs2) (.normal, s'))) Q := by
    intro a' ha s' hs'
    refine draw_end bs (q + 1) wk m i a' hb (by omega) (by omega) hi hA hG (fun m' s2 hm' hn => ?_) s' hs'
    rw [show q + 1 + 1 = q + 2 by omega] at hn
    exact hY m' s2 (by rw [← ha]; exact hm') hn
  by_cases c1 : a.at_ < 0
  · have u1 : IntKind.i64.wrap (-(pickV bs q 6)) = -(pickV bs q 6) := i64w (by omega) (by omega)
    by_cases c2 : 0 < pickV bs q 6
    · have c3 : -(pickV bs q 6) < 0 := by omega
      simp [codeC, codeD, s0, s2, s3, s7, s8, g0, g1, g2, g3, nx, base, a1, c1, c2, c3, u1]
      refine fin' ⟨a.hold, a.copy, 0, 0⟩ (by simp [askFix, c1, c2, c3]) _ ⟨by simp, by simp, by simp, by simp, by simp, by simp [rdBox], by simp [g1], by simp [g2], by simp, fun k hk => by have := gx k hk; have e1 : ¬ (4 + k = 3) := (by omega); have e2 : ¬ (4 + k = 0) := (by omega); simpa [e1, e2] using this, by simp, by simp⟩
    · have c3 : ¬ (-(pickV bs q 6) < 0) := by omega
      have c4 : pickV bs q 6 = 0 := by omega
      simp [codeC, codeD, s0, s2, s3, s7, s8, g0, g1, g2, g3, nx, base, a1, c1, c2, c3, u1]
      refine fin' ⟨a.hold, a.copy, -(pickV bs q 6), 0⟩ (by simp [askFix, c1, c2, c3, c4]) _ ⟨by simp, by simp, by simp, by simp, by simp, by simp [rdBox], by simp [g1], by simp [g2], by simp, fun k hk => by have := gx k hk; have e1 : ¬ (4 + k = 3) := (by omega); have e2 : ¬ (4 + k = 0) := (by omega); simpa [e1, e2] using this, by simp, by simp⟩
  · have u1 : IntKind.i64.wrap (a.at_ - pickV bs q 6) = a.at_ - pickV bs q 6 := i64w (by omega) (by omega)
    by_cases c2 : a.at_ - pickV bs q 6 < 0
    · simp [codeC, codeD, s0, s2, s3, s7, s8, g0, g1, g2, g3, nx, base, a1, c1, c2, u1]
      refine fin' ⟨a.hold, a.copy, 0, a.at_⟩ (by simp [askFix, c1, c2]) _ ⟨by simp, by simp, by simp, by simp, by simp, by simp [rdBox], by simp [g1], by simp [g2], by simp, fun k hk => by have := gx k hk; have e1 : ¬ (4 + k = 3) := (by omega); have e2 : ¬ (4 + k = 0) := (by omega); simpa [e1, e2] using this, by simp, by simp⟩
    · simp [codeC, codeD, s0, s2, s3, s7, s8, g0, g1, g2, g3, nx, base, a1, c1, c2, u1]
      refine fin' ⟨a.hold, a.copy, a.at_ - pickV bs q 6, a.at_⟩ (by simp [askFix, c1, c2]) _ ⟨by simp, by simp, by simp, by simp, by simp, by simp [rdBox], by simp [g1], by simp [g2], by simp, fun k hk => by have := gx k hk; have e1 : ¬ (4 + k = 3) := (by omega); have e2 : ¬ (4 + k = 0) := (by omega); simpa [e1, e2] using this, by simp, by simp⟩

theorem draw_asks (bs : List Int) (p : Int) (wk : Bool) (m : Mate) (hb : Code bs) (h0 : 0 ≤ p) (hp : p ≤ 1000000000) (hm : m.tame) (hwk : wk = false → m.wants = []) (ha : m.asks = []) (hg : m.gives = []) (hr : m.runs.length ≤ 4) (hc : 0 ≤ m.clock ∧ m.clock ≤ 1000) (s : St) (hs : s.norm [0, 2, 3, 7] = head156b bs p wk m 0) :
    Ends (fin [CRes.cell 2 9 true] 1 (X F [.code (.loop [0, 2, 3, 7] c156b2), .blk 2, .code (.seq (.region [⟨some 179, .load (.tmp 3) 9 true .plain, none⟩, ⟨none, .store (.tmp 2) (.tmp 179) 9, none⟩] [2]) .ret)] (.normal, s)))
      (Drew bs p 24 fun x => ∃ m' : Mate, x = .agg (m'.c .own) ∧ m'.tame ∧ 0 ≤ m'.clock ∧ m'.clock ≤ 1000) := by
  refine loop_end (K := fin [CRes.cell 2 9 true] 1) (σ := Nat × Int × Mate) (fun z => head156b bs z.2.1 wk z.2.2 z.1)
    (fun z => z.1 ≤ 3 ∧ p ≤ z.2.1 ∧ z.2.1 ≤ p + 8 * z.1 ∧ z.2.2.tame ∧ (wk = false → z.2.2.wants = []) ∧ z.2.2.asks.length ≤ z.1 ∧ z.2.2.gives.length ≤ z.1 ∧ z.2.2.runs.length ≤ 4 ∧ (0 ≤ z.2.2.clock ∧ z.2.2.clock ≤ 1000))
    (fun z => 3 - z.1) (fun z Y hinv hY => ?_) (0, p, m) hs ⟨by omega, by simp, by simp, hm, hwk, by simp [ha], by simp [hg], hr, hc⟩ (by unfold big; simp)
  obtain ⟨i, q, m⟩ := z
  obtain ⟨h1, h2, h3, h4, h5, h6, h7, h8, h9⟩ := hinv
  clear hm hwk ha hg hr hc hs
  simp only at h1 h2 h3 h4 h5 h6 h7 h8 h9 hY ⊢
  by_cases hi : i < 3
  · have hiI : (i : Int) < 3 := by omega
    obtain ⟨a1, a2, a3⟩ := law89 bs q 4 hb (by omega) (by omega) (by omega)
    obtain ⟨b1, b2, b3⟩ := law89 bs (q + 1) 12 hb (by omega) (by omega) (by omega)
    rw [show q + 1 + 1 = q + 2 by omega] at b1
    have a4 := a3 (by omega)
    have b4 := b3 (by omega)
    obtain ⟨k, hk, hk4⟩ := toNat_cases (n := 4) a2 a4
    have d1 := law140 k (by omega)
    have d2 := cName_size (i := k) (by omega)
    have d3 : (⟨#[99]⟩ : T).size + (dec k).size ≤ 9223372036854775807 := by rw [app_size] at d2; omega
    generalize pickV bs (q + 1) 12 = y at b1 b2 b4
    have u1 : IntKind.i64.wrap (m.clock - y) = m.clock - y := i64w (by omega) (by omega)
    have hsel : i < [[AV.str ⟨#[105, 112]⟩], [.str ⟨#[118, 111, 108]⟩], [.str ⟨#[118, 111, 108, 50]⟩]].length := hi
    have hsel2 := selN3 ⟨#[105, 112]⟩ ⟨#[118, 111, 108]⟩ ⟨#[118, 111, 108, 50]⟩ hsel
    generalize hhold : [(⟨#[105, 112]⟩ : T), ⟨#[118, 111, 108]⟩, ⟨#[118, 111, 108, 50]⟩].getD i ⟨#[]⟩ = hold at hsel2
    have hhs : inS hold = true := by
      rw [← hhold]
      rcases i with _ | _ | _ | i
      · exact inS_mem (by simp)
      · exact inS_mem (by simp)
      · exact inS_mem (by simp)
      · exact inS_mem (by simp)
    simp only [rdBox] at a1 b1
    rw [hk] at a1
    have hruns : ∀ r ∈ m.runs, r.tame := h4.runs
    simp [head156b, rdBox, c156b2, hiI, hi, hsel2, a1, b1, d1, d3, u1, cellsB]
    refine loop_end (K := fin [CRes.cell 2 9 true] 1) (σ := Nat × Int × T) (fun z => head156c bs z.2.1 wk m i ⟨hold, z.2.2, 0, m.clock - y⟩ z.1)
      (fun z => z.1 ≤ m.runs.length ∧ q + 2 ≤ z.2.1 ∧ z.2.1 ≤ q + 2 + z.1 ∧ z.2.2.size ≤ 1000) (fun z => m.runs.length - z.1) (fun z Y2 hinv2 hY2 => ?_) (0, q + 2, ⟨#[99]⟩ ++ dec k) ?_ ⟨by simp, by simp, by simp, d2⟩ (by unfold big; simp only; omega)
    · obtain ⟨j, q2, cp⟩ := z
      obtain ⟨g1, g2, g3, g4⟩ := hinv2
      simp only at g1 g2 g3 g4 hY2 ⊢
      by_cases hj : j < m.runs.length
      · have hjI : (j : Int) < m.runs.length := by omega
        have hw : IntKind.i64.wrap ((j : Int) + 1) = (j : Int) + 1 := i64w (by omega) (by omega)
        obtain ⟨r, hrr⟩ : ∃ r, m.runs[j]? = some r := ⟨_, List.getElem?_eq_getElem hj⟩
        obtain ⟨_, hg⟩ := List.getElem?_eq_some_iff.1 hrr
        have hrt := hruns r (List.mem_of_getElem? hrr)
        obtain ⟨e1, e2, e3⟩ := law89 bs q2 4 hb (by omega) (by omega) (by omega)
        simp only [rdBox] at e1
        have hnorm : ∀ (q3 : Int) (cp3 : T) (s' : St), s'.slots 0 = .ptr 0 0 0 → s'.slots 2 = .ptr 1 0 0 → s'.slots 3 = .ptr 2 0 0 → s'.slots 7 = .int .i64 i → s'.slots 8 = .ptr 3 0 0 → s'.slots 9 = .int .i64 ((j : Int) + 1) → s'.heap 0 = some (rdBox bs q3) → s'.heap 1 = some (.box zeroCells) → s'.heap 2 = some (.box (cellsB 4 wk m)) →
            s'.heap 3 = some (.box (Ask.c ⟨hold, cp3, 0, m.clock - y⟩)) → (∀ k, k < 5 → s'.heap (4 + k) = (arrsB wk m)[k]?) → s'.base = 1 → s'.norm [0, 2, 3, 7, 8, 9] = head156c bs q3 wk m i ⟨hold, cp3, 0, m.clock - y⟩ (j + 1) := by
          intro q3 cp3 s' c0 c2 c3 c7 c8 c9 v0 v1 v2 v3 vx vb
          have gx4 := vx 0 (by omega)
          have gx5 := vx 1 (by omega)
          have gx6 := vx 2 (by omega)
          have gx7 := vx 3 (by omega)
          rcases hAA : m.asks with _ | ⟨x1, as⟩ <;> rcases hGG : m.gives with _ | ⟨y1, gs⟩ <;> cases wk <;>
          · simp [arrsB, hAA, hGG] at gx4 gx5 gx6 gx7
            simp [head156c, c0, c2, c3, c7, c8, c9, v0, v1, v2, v3, gx4, gx5, gx6, gx7, vb, rdBox, cellsB, zeroCells, arrsB, wn, an, hAA, hGG]
        have z0 : ¬ (4 + wn wk = 0) := by omega
        have z1 : ¬ (4 + wn wk = 1) := by omega
        have z2 : ¬ (4 + wn wk = 2) := by omega
        have z3 : ¬ (4 + wn wk = 3) := by omega
        have r5 : YtpiljklnekefoaaGreatDoor.hp (arrsB wk m) 4 (4 + wn wk) = some (.arr 11 (m.runs.map Run.c)) := by rw [hp_get]; cases wk <;> simp [arrsB, wn]
        by_cases k1 : sEq r.want.hold hold = true
        · by_cases k2 : 0 < pickV bs q2 4
          · simp [head156c, rdBox, c156b1, cellsB, hjI, hj, hg, r5, z0, z1, z2, z3, k1, k2, e1]
            refine hY2 (j + 1, q2 + 1, r.want.copy) _ ⟨by simp only; omega, by simp only; omega, by simp only; omega, hrt.want.copy⟩ (by simp only; omega) ?_
            exact hnorm (q2 + 1) r.want.copy _ (by simp) (by simp) (by simp) (by simp) (by simp) (by simp [hw]) (by simp [rdBox]) (by simp) (by simp [cellsB]) (by simp) (fun k' hk' => by have e1 : ¬ (4 + k' = 3) := (by omega); have e2 : ¬ (4 + k' = 0) := (by omega); have e3 : ¬ (4 + k' = 1) := (by omega); have e4 : ¬ (4 + k' = 2) := (by omega); simp [e1, e2, e3, e4, hp_get]) (by simp)
          · simp [head156c, rdBox, c156b1, cellsB, hjI, hj, hg, r5, z0, z1, z2, z3, k1, k2, e1]
            refine hY2 (j + 1, q2 + 1, cp) _ ⟨by simp only; omega, by simp only; omega, by simp only; omega, g4⟩ (by simp only; omega) ?_
            exact hnorm (q2 + 1) cp _ (by simp) (by simp) (by simp) (by simp) (by simp) (by simp [hw]) (by simp [rdBox]) (by simp) (by simp [cellsB]) (by simp) (fun k' hk' => by have e1 : ¬ (4 + k' = 3) := (by omega); have e2 : ¬ (4 + k' = 0) := (by omega); have e3 : ¬ (4 + k' = 1) := (by omega); have e4 : ¬ (4 + k' = 2) := (by omega); simp [e1, e2, e3, e4, hp_get]) (by simp)
        · simp [head156c, rdBox, c156b1, cellsB, hjI, hj, hg, r5, z0, z1, z2, z3, k1]
          refine hY2 (j + 1, q2, cp) _ ⟨by simp only; omega, by simp only; omega, by simp only; omega, g4⟩ (by simp only; omega) ?_
          exact hnorm q2 cp _ (by simp) (by simp) (by simp) (by simp) (by simp) (by simp [hw]) (by simp [rdBox]) (by simp) (by simp [cellsB]) (by simp) (fun k' hk' => by have e1 : ¬ (4 + k' = 3) := (by omega); have e2 : ¬ (4 + k' = 0) := (by omega); have e3 : ¬ (4 + k' = 1) := (by omega); have e4 : ¬ (4 + k' = 2) := (by omega); simp [e1, e2, e3, e4, hp_get]) (by simp)
      · have hjI : ¬ (j : Int) < m.runs.length := by omega
        have z0 : ¬ (4 + wn wk = 0) := by omega
        have z1 : ¬ (4 + wn wk = 1) := by omega
        have z2 : ¬ (4 + wn wk = 2) := by omega
        have z3 : ¬ (4 + wn wk = 3) := by omega
        have r5 : YtpiljklnekefoaaGreatDoor.hp (arrsB wk m) 4 (4 + wn wk) = some (.arr 11 (m.runs.map Run.c)) := by rw [hp_get]; cases wk <;> simp [arrsB, wn]
        show Ends (fin [CRes.cell 2 9 true] 1 (X F (.code c156b1 :: .back Y2 :: .blk 4 :: .code codeC :: _) (.normal, _))) _
        simp [head156c, rdBox, c156b1, cellsB, hjI, r5, z0, z1, z2, z3]
        refine draw_rest bs q2 wk m i ⟨hold, cp, 0, m.clock - y⟩ hb ?_ ?_ hi ?_ ?_ ?_ (fun m' s' hm' hn => ?_) _ ?_
        · omega
        · omega
        · omega
        · omega
        · exact ⟨by simp only; omega, by simp only; omega⟩
        · obtain ⟨e1, e2, e3⟩ := law89 bs q2 6 hb (by omega) (by omega) (by omega)
          have e4 := e3 (by omega)
          have hfix : (askFix ⟨hold, cp, 0, m.clock - y⟩ (pickV bs q2 6)).tame := by
            unfold askFix
            refine ⟨hhs, g4, ?_, ?_⟩
            · simp only
              split <;> split <;> exact ⟨by omega, by omega⟩
            · simp only
              split <;> exact ⟨by omega, by omega⟩
          obtain ⟨r1, r2, r3, r4, r5', r6, r7, r8, r9, r10, r11⟩ := h4
          refine hY (i + 1, q2 + 2, m') s' ?_ (by simp only; omega) hn
          rcases hm' with rfl | rfl | rfl
          · exact ⟨by simp only; omega, by simp only; omega, by simp only; omega, ⟨r1, r2, r3, r4, r5', r6, r7, r8, r9, r10, r11⟩, h5, by simp only; omega, by simp only; omega, h8, h9⟩
          · exact ⟨by simp only; omega, by simp only; omega, by simp only; omega, ⟨r1, r2, r3, r4, r5', r6, r7, by simp; omega, mem_snoc r9 hfix, r10, r11⟩, h5, by simp; omega, by simp only; omega, h8, h9⟩
          · exact ⟨by simp only; omega, by simp only; omega, by simp only; omega, ⟨r1, r2, r3, r4, r5', r6, r7, r8, r9, by simp; omega, mem_snoc r11 hfix⟩, h5, by simp only; omega, by simp; omega, h8, h9⟩
        · exact ⟨by simp, by simp, by simp, by simp, by simp, by simp [rdBox], by simp, by simp [cellsB], by simp, fun k' hk' => by have e1 : ¬ (4 + k' = 3) := (by omega); have e2 : ¬ (4 + k' = 0) := (by omega); have e3 : ¬ (4 + k' = 1) := (by omega); have e4 : ¬ (4 + k' = 2) := (by omega); simp [e1, e2, e3, e4, hp_get], by simp, by simp⟩
    · rcases hAA : m.asks with _ | ⟨x1, as⟩ <;> rcases hGG : m.gives with _ | ⟨y1, gs⟩ <;> cases wk <;> simp [head156c, rdBox, cellsB, zeroCells, arrsB, wn, an, hAA, hGG]
  · have hiI : ¬ (i : Int) < 3 := by omega
    have hQ : Drew bs p 24 (fun x => ∃ m' : Mate, x = .agg (m'.c .own) ∧ m'.tame ∧ 0 ≤ m'.clock ∧ m'.clock ≤ 1000) (.agg (m.c .own), [some (rdBox bs q)]) := ⟨_, q, rfl, by omega, by omega, m, rfl, h4, h9⟩
    obtain ⟨m1, m2, m3, m4, m5, ws, rs, as, gs⟩ := m
    simp only [rdBox, Mate.c] at hQ
    simp only at h5
    cases wk
    · obtain rfl := h5 rfl
      rcases as with _ | ⟨a1, as⟩ <;> rcases gs with _ | ⟨g1, gs⟩ <;> simp [head156b, rdBox, c156b2, hiI, zeroCells, cellsB, arrsB, wn, an] <;> simpa using hQ
    · rcases as with _ | ⟨a1, as⟩ <;> rcases gs with _ | ⟨g1, gs⟩ <;> simp [head156b, rdBox, c156b2, hiI, zeroCells, cellsB, arrsB, wn, an] <;> simpa using hQ
end Go.Proofs.YtpiljklnekefoaaGreatDoor

namespace Go.Proofs.YtpiljklnekefoaaGreatDoor
open Go
set_option linter.unusedSimpArgs false
set_option maxRecDepth 100000

theorem fallRun_tame {b : Bool} {r r' : Run} (h : r.tame) (e : fallRun b r = some r') : r'.tame := by
  unfold fallRun at e
  split at e
  · split at e
    · split at e
      · cases e
      · obtain rfl := Option.some.inj e
        exact ⟨h.want, ⟨by simp, by simp⟩, ⟨by simp, by simp⟩, h.falls, h.til⟩
    · obtain rfl := Option.some.inj e
      exact h
  · cases e

theorem fall_tame {m : Mate} (b : Bool) (h : m.tame) : (mateFall m b).tame := by
  unfold mateFall
  split
  · refine ⟨h.name, h.clock, ⟨by simp [Mate.zero], by simp [Mate.zero]⟩, by simp [Mate.zero], by simp [Mate.zero], Nat.le_trans (List.length_filterMap_le _ _) h.nruns, ?_, by simp [Mate.zero], by simp [Mate.zero], by simp [Mate.zero], by simp [Mate.zero]⟩
    intro r hr
    obtain ⟨r0, h1, h2⟩ := List.mem_filterMap.1 hr
    exact fallRun_tame (h.runs r0 h1) h2
  · exact ⟨Nat.zero_le _, ⟨by simp [Mate.zero], by simp [Mate.zero]⟩, ⟨by simp [Mate.zero], by simp [Mate.zero]⟩, by simp [Mate.zero], by simp [Mate.zero], by simp [Mate.zero], by simp [Mate.zero], by simp [Mate.zero], by simp [Mate.zero], by simp [Mate.zero], by simp [Mate.zero]⟩
def head156a (bs : List Int) (p : Int) (m : Mate) (i : Nat) : St :=
  hd [(0, .ptr 0 0 0), (2, .ptr 1 0 0), (3, .ptr 2 0 0), (4, .int .i64 i)] (rdBox bs p :: .box zeroCells :: .box (cellsB 3 true { m with asks := [], gives := [] }) :: arrsB true { m with asks := [], gives := [] }) 1

theorem law156 (bs : List Int) (p : Int) (hb : Code bs) (h0 : 0 ≤ p) (hp : p ≤ 900000000) : Ends (F 156 [.ptr 0 0 0] [rdBox bs p]) (Drew bs p 120 fun x => ∃ m' : Mate, x = .agg (m'.c .own) ∧ m'.tame ∧ 0 ≤ m'.clock ∧ m'.clock ≤ 1000) := by
  refine F_ends fn156 rfl ?_
  obtain ⟨a1, a2, a3⟩ := law89 bs p 6 hb h0 (by omega) (by omega)
  obtain ⟨b1, b2, b3⟩ := law89 bs (p + 1) 60 hb (by omega) (by omega) (by omega)
  rw [show p + 1 + 1 = p + 2 by omega] at b1
  have b4 := b3 (by omega)
  obtain ⟨_, c1, x1, p1, rfl, c2, c3, rs, rfl, c4, c5⟩ := law162 bs (p + 2) (pickV bs (p + 1) 60) true hb (by omega) (by omega) ⟨b2, by omega⟩
  obtain ⟨d1, d2, d3⟩ := law89 bs p1 6 hb (by omega) (by omega) (by omega)
  generalize pickV bs (p + 1) 60 = clock at *
  simp only [rdBox] at a1 b1 c1 d1
  have t0 : tame clock := ⟨by omega, by omega⟩
  by_cases k0 : 0 < pickV bs p 6
  · by_cases k1 : 0 < pickV bs p1 6
    · obtain ⟨e1, e2, e3⟩ := law89 bs (p1 + 1) 4 hb (by omega) (by omega) (by omega)
      rw [show p1 + 1 + 1 = p1 + 2 by omega] at e1
      have e4 := e3 (by omega)
      obtain ⟨_, f1, x2, p2, rfl, f2, f3, ws, rfl, f4, f5⟩ := law145 bs (p1 + 2) hb (by omega) (by omega)
      generalize pickV bs (p1 + 1) 4 = seen at *
      have t1 : tame seen := ⟨by omega, by omega⟩
      simp only [rdBox] at e1 f1
      have w161 := fun n => law161 ws n (by unfold big; omega)
      simp [c156, rdBox, a1, b1, c1, d1, e1, f1, k0, k1]
      refine loop_end (K := fin [CRes.cell 2 9 true] 1) (σ := Nat × Int × List Run) (fun z => head156a bs z.2.1 ⟨⟨#[97]⟩, true, clock, true, seen, ws, z.2.2, [], []⟩ z.1)
        (fun z => z.1 ≤ rs.length ∧ p2 ≤ z.2.1 ∧ z.2.1 ≤ p2 + z.1 ∧ z.2.2.length = rs.length ∧ ∀ r ∈ z.2.2, Run.tame r) (fun z => rs.length - z.1) (fun z Y hinv hY => ?_) (0, p2, rs) ?_ ⟨by simp, by simp, by simp, rfl, c5⟩ (by unfold big; simp only; omega)
      · obtain ⟨i, q, xs⟩ := z
        obtain ⟨g1, g2, g3, g4, g5⟩ := hinv
        simp only at g1 g2 g3 g4 g5 hY ⊢
        by_cases hi : i < xs.length
        · have hiI : (i : Int) < xs.length := by omega
          have hw : IntKind.i64.wrap ((i : Int) + 1) = (i : Int) + 1 := i64w (by omega) (by omega)
          obtain ⟨r, hrr⟩ : ∃ r, xs[i]? = some r := ⟨_, List.getElem?_eq_getElem hi⟩
          obtain ⟨_, hg⟩ := List.getElem?_eq_some_iff.1 hrr
          have hrt := g5 r (List.mem_of_getElem? hrr)
          obtain ⟨u1, u2, u3⟩ := law89 bs q 4 hb (by omega) (by omega) (by omega)
          have wv := w161 r.want.copy
          have wt := findW_tame f5 r.want.copy
          generalize (findW ws r.want.copy).getD .zero = w at wv wt
          generalize (findW ws r.want.copy).isSome = there at wv
          simp only [rdBox] at u1
          simp only [Want.c] at wv
          have hset : ∀ y : Run, y.tame → ∀ z ∈ xs.set i y, Run.tame z := by
            intro y hy z hz
            rcases List.mem_or_eq_of_mem_set hz with h | h
            · exact g5 z h
            · rw [h]; exact hy
          cases there
          · simp [head156a, rdBox, cellsB, arrsB, wn, an, c156b0, hiI, hi, hg, wv]
            refine hY (i + 1, q, xs) _ ⟨by simp only; omega, by simp only; omega, by simp only; omega, g4, g5⟩ (by simp only; omega) ?_
            simp [head156a, rdBox, cellsB, zeroCells, arrsB, wn, an, hw]
          · by_cases v1 : 0 < pickV bs q 4
            · cases v2 : sEq w.hold ⟨#[]⟩
              · cases v3 : runOk ⟨w, r.state, r.left, r.falls, r.til⟩ clock
                · simp [head156a, rdBox, cellsB, arrsB, wn, an, c156b0, hiI, hi, hg, wv, u1, v1, v2, v3]
                  refine hY (i + 1, q + 1, xs.set i ⟨w, 2, 0, r.falls, r.til⟩) _ ⟨by simp only; omega, by simp only; omega, by simp only; omega, by simp [g4], hset _ ⟨wt, ⟨by simp, by simp⟩, ⟨by simp, by simp⟩, hrt.falls, hrt.til⟩⟩ (by simp only; omega) ?_
                  simp [head156a, rdBox, cellsB, zeroCells, arrsB, wn, an, hw, List.map_set]
                · simp [head156a, rdBox, cellsB, arrsB, wn, an, c156b0, hiI, hi, hg, wv, u1, v1, v2, v3]
                  refine hY (i + 1, q + 1, xs.set i ⟨w, r.state, r.left, r.falls, r.til⟩) _ ⟨by simp only; omega, by simp only; omega, by simp only; omega, by simp [g4], hset _ ⟨wt, hrt.state, hrt.left, hrt.falls, hrt.til⟩⟩ (by simp only; omega) ?_
                  simp [head156a, rdBox, cellsB, zeroCells, arrsB, wn, an, hw, List.map_set]
              · cases v3 : runOk ⟨w, r.state, r.left, r.falls, 0⟩ clock
                · simp [head156a, rdBox, cellsB, arrsB, wn, an, c156b0, hiI, hi, hg, wv, u1, v1, v2, v3]
                  refine hY (i + 1, q + 1, xs.set i ⟨w, 2, 0, r.falls, 0⟩) _ ⟨by simp only; omega, by simp only; omega, by simp only; omega, by simp [g4], hset _ ⟨wt, ⟨by simp, by simp⟩, ⟨by simp, by simp⟩, hrt.falls, ⟨by simp, by simp⟩⟩⟩ (by simp only; omega) ?_
                  simp [head156a, rdBox, cellsB, zeroCells, arrsB, wn, an, hw, List.map_set]
                · simp [head156a, rdBox, cellsB, arrsB, wn, an, c156b0, hiI, hi, hg, wv, u1, v1, v2, v3]
                  refine hY (i + 1, q + 1, xs.set i ⟨w, r.state, r.left, r.falls, 0⟩) _ ⟨by simp only; omega, by simp only; omega, by simp only; omega, by simp [g4], hset _ ⟨wt, hrt.state, hrt.left, hrt.falls, ⟨by simp, by simp⟩⟩⟩ (by simp only; omega) ?_
                  simp [head156a, rdBox, cellsB, zeroCells, arrsB, wn, an, hw, List.map_set]
            · simp [head156a, rdBox, cellsB, arrsB, wn, an, c156b0, hiI, hi, hg, wv, u1, v1]
              refine hY (i + 1, q + 1, xs) _ ⟨by simp only; omega, by simp only; omega, by simp only; omega, g4, g5⟩ (by simp only; omega) ?_
              simp [head156a, rdBox, cellsB, zeroCells, arrsB, wn, an, hw]
        · have hiI : ¬ (i : Int) < xs.length := by omega
          simp [head156a, rdBox, cellsB, arrsB, wn, an, c156b0, hiI]
          refine (draw_asks bs q true ⟨⟨#[97]⟩, true, clock, true, seen, ws, xs, [], []⟩ hb (by omega) (by omega) ⟨(show (⟨#[97]⟩ : T).size ≤ 1000 by decide), t0, t1, by simp only; omega, f5, by simp only; omega, g5, by simp, by simp, by simp, by simp⟩ (fun h => by cases h) rfl rfl (by simp only; omega) ⟨b2, by simp only; omega⟩ _ ?_).mono ?_
          · simp [head156b, rdBox, cellsB, zeroCells, arrsB, wn, an]
          · rintro r ⟨x, p', h1, h2, h3, h4⟩
            exact ⟨x, p', h1, by omega, by omega, h4⟩
      · simp [head156a, rdBox, cellsB, zeroCells, arrsB, wn, an]
    · simp [c156, rdBox, a1, b1, c1, d1, k0, k1]
      refine (draw_asks bs (p1 + 1) false ⟨⟨#[97]⟩, true, clock, false, 0, [], rs, [], []⟩ hb (by omega) (by omega) ⟨(show (⟨#[97]⟩ : T).size ≤ 1000 by decide), t0, ⟨by simp, by simp⟩, by simp, by simp, by simp only; omega, c5, by simp, by simp, by simp, by simp⟩ (fun _ => rfl) rfl rfl c4 ⟨b2, by simp only; omega⟩ _ ?_).mono ?_
      · simp [head156b, rdBox, cellsB, zeroCells, arrsB, wn, an]
      · rintro r ⟨x, p', h1, h2, h3, h4⟩
        exact ⟨x, p', h1, by omega, by omega, h4⟩
  · obtain ⟨e1, e2, e3⟩ := law89 bs p1 3 hb (by omega) (by omega) (by omega)
    have hmt : Mate.tame ⟨⟨#[97]⟩, false, clock, false, 0, [], rs, [], []⟩ := ⟨(show (⟨#[97]⟩ : T).size ≤ 1000 by decide), t0, ⟨by simp, by simp⟩, by simp, by simp, by simp only; omega, c5, by simp, by simp, by simp, by simp⟩
    have w := law32 _ (pickV bs p1 3 == 0) (hmt.small (by omega))
    have wt := fall_tame (pickV bs p1 3 == 0) hmt
    have wc : 0 ≤ (mateFall ⟨⟨#[97]⟩, false, clock, false, 0, [], rs, [], []⟩ (pickV bs p1 3 == 0)).clock ∧ (mateFall ⟨⟨#[97]⟩, false, clock, false, 0, [], rs, [], []⟩ (pickV bs p1 3 == 0)).clock ≤ 1000 := by
      unfold mateFall
      split
      · exact ⟨b2, by simp only; omega⟩
      · simp [Mate.zero]
    generalize mateFall ⟨⟨#[97]⟩, false, clock, false, 0, [], rs, [], []⟩ (pickV bs p1 3 == 0) = g at w wt wc
    simp only [rdBox] at e1
    simp at w
    simp [c156, rdBox, a1, b1, c1, k0, e1, w]
    exact ⟨_, p1 + 1, rfl, by omega, by omega, g, by simp, wt, wc⟩
end Go.Proofs.YtpiljklnekefoaaGreatDoor

namespace Go.Proofs.YtpiljklnekefoaaGreatDoor
open Go
set_option linter.unusedSimpArgs false
set_option maxRecDepth 100000

theorem law155 {K : Nat} (bs : List Int) (p : Int) (m : Mate) (hb : Code bs) (h0 : 0 ≤ p) (hp : p ≤ 900000000) (hm : m.tameN K) (hclk : -10000000 ≤ m.clock ∧ m.clock ≤ 10000000) (hK : K ≤ 100 := by omega) : Ends (F 155 [.ptr 0 0 0, .agg (m.c .bor)] [rdBox bs p]) (Drew bs p 20 fun x => ∃ m' : Mate, x = .agg (m'.c .own) ∧ m'.tameN (K + 10)) := by
  have w0 := law120 m (hm.small (by omega))
  have hl := hm.nruns
  have hl2 := hm.nasks
  have hl3 := hm.ngives
  obtain ⟨a1, a2, a3⟩ := law89 bs p m.runs.length hb h0 (by omega) (by omega)
  obtain ⟨b1, b2, b3⟩ := law89 bs (p + 1) 12 hb (by omega) (by omega) (by omega)
  rw [show p + 1 + 1 = p + 2 by omega] at b1
  have hu := hm.up (show K ≤ K + 10 by omega)
  obtain ⟨t1, t2, t3, t4, t5, t6, t7, t8, t9, t10, t11⟩ := hu
  simp only [rdBox] at a1 b1
  simp only [Mate.c] at w0
  refine F_ends fn155 rfl ?_
  by_cases k0 : pickV bs (p + 1) 12 = 0
  · obtain ⟨c1, c2, c3⟩ := law89 bs (p + 2) 2 hb (by omega) (by omega) (by omega)
    have c4 := c3 (by omega)
    simp only [rdBox] at c1
    simp [c155, rdBox, w0, a1, b1, k0, c1, c2, c4]
    exact ⟨_, p + 2 + 1, rfl, by omega, by omega, { m with name := selT [⟨#[]⟩, ⟨#[120, 32, 121]⟩] (pickV bs (p + 2) 2) }, by simp, selT_le (by simp; decide) _, t2, t3, t4, t5, t6, t7, t8, t9, t10, t11⟩
  by_cases k1 : pickV bs (p + 1) 12 = 1
  · simp [c155, rdBox, w0, a1, b1, k0, k1]
    exact ⟨_, p + 2, rfl, by omega, by omega, { m with up := !m.up }, by simp, t1, t2, t3, t4, t5, t6, t7, t8, t9, t10, t11⟩
  by_cases k2 : pickV bs (p + 1) 12 = 2
  · obtain ⟨c1, c2, c3⟩ := law89 bs (p + 2) 4 hb (by omega) (by omega) (by omega)
    have c4 := c3 (by omega)
    obtain ⟨t2a, t2b⟩ := hm.clock
    have u1 : IntKind.i64.wrap (m.clock + 9) = m.clock + 9 := i64w (by omega) (by omega)
    simp only [rdBox] at c1
    simp [c155, rdBox, w0, a1, b1, k0, k1, k2, c1, c2, c4, u1]
    exact ⟨_, p + 2 + 1, rfl, by omega, by omega, { m with clock := selI [-1, 0, m.clock + 9, 1000001] (pickV bs (p + 2) 4) }, by simp, t1, selI_tame (by simp [tame]; omega) _, t3, t4, t5, t6, t7, t8, t9, t10, t11⟩
  by_cases k3 : pickV bs (p + 1) 12 = 3
  · simp [c155, rdBox, w0, a1, b1, k0, k1, k2, k3]
    exact ⟨_, p + 2, rfl, by omega, by omega, { m with known := !m.known }, by simp, t1, t2, t3, t4, t5, t6, t7, t8, t9, t10, t11⟩
  by_cases k4 : pickV bs (p + 1) 12 = 4
  · obtain ⟨c1, c2, c3⟩ := law89 bs (p + 2) 3 hb (by omega) (by omega) (by omega)
    have c4 := c3 (by omega)
    simp only [rdBox] at c1
    simp [c155, rdBox, w0, a1, b1, k0, k1, k2, k3, k4, c1, c2, c4]
    exact ⟨_, p + 2 + 1, rfl, by omega, by omega, { m with seen := selI [-1, 1000000, 1000001] (pickV bs (p + 2) 3) }, by simp, t1, t2, selI_tame (by simp [tame]) _, t4, t5, t6, t7, t8, t9, t10, t11⟩
  by_cases k5 : pickV bs (p + 1) 12 = 5
  · rcases hW : m.wants with _ | ⟨w, ws⟩
    · rw [hW] at w0
      simp only [List.map_nil] at w0
      simp [c155, rdBox, w0, a1, b1, k0, k1, k2, k3, k4, k5, hW]
      exact ⟨_, p + 2, rfl, by omega, by omega, m, by simp [hW], t1, t2, t3, t4, t5, t6, t7, t8, t9, t10, t11⟩
    · rw [hW] at t4 t5 w0
      simp only [List.map_cons, Want.c] at w0
      obtain ⟨w', p', c1, c2, c3, c4⟩ := law144 bs (p + 2) w hb (by omega) (by omega) (t5 w List.mem_cons_self)
      simp only [rdBox, Want.c] at c1
      simp [c155, rdBox, w0, a1, b1, k0, k1, k2, k3, k4, k5, c1, hW]
      refine ⟨_, p', rfl, by omega, by omega, { m with wants := w' :: ws }, by simp, t1, t2, t3, by simpa using t4, fun x hx => ?_, t6, t7, t8, t9, t10, t11⟩
      rcases List.mem_cons.1 hx with rfl | hx
      · exact c4
      · exact t5 x (List.mem_cons_of_mem _ hx)
  by_cases k6 : pickV bs (p + 1) 12 = 6
  · by_cases hR : 0 < m.runs.length
    · have hRI : (0 : Int) < m.runs.length := by omega
      have a4 := a3 (by omega)
      obtain ⟨k, hk, hk2⟩ := toNat_cases (n := m.runs.length) a2 a4
      rw [hk] at a1
      obtain ⟨r, hrr⟩ : ∃ r, m.runs[k]? = some r := ⟨_, List.getElem?_eq_getElem hk2⟩
      obtain ⟨_, hg⟩ := List.getElem?_eq_some_iff.1 hrr
      obtain ⟨r', p', c1, c2, c3, c4⟩ := law88 bs (p + 2) r hb (by omega) (by omega) (t7 r (List.mem_of_getElem? hrr))
      simp only [rdBox, Run.c] at c1
      simp [c155, rdBox, w0, a1, b1, k0, k1, k2, k3, k4, k5, k6, hR, hRI, hk2, hg, c1]
      refine ⟨_, p', rfl, by omega, by omega, { m with runs := m.runs.set k r' }, by simp [List.map_set], t1, t2, t3, t4, t5, by simpa using t6, fun x hx => ?_, t8, t9, t10, t11⟩
      rcases List.mem_or_eq_of_mem_set hx with h | h
      · exact t7 x h
      · rw [h]; exact c4
    · have hRI : ¬ (0 : Int) < m.runs.length := by omega
      simp [c155, rdBox, w0, a1, b1, k0, k1, k2, k3, k4, k5, k6, hR, hRI]
      exact ⟨_, p + 2, rfl, by omega, by omega, m, by simp, t1, t2, t3, t4, t5, t6, t7, t8, t9, t10, t11⟩
  by_cases k7 : pickV bs (p + 1) 12 = 7
  · by_cases hR : 0 < m.runs.length
    · have hRI : (0 : Int) < m.runs.length := by omega
      have a4 := a3 (by omega)
      obtain ⟨k, hk, hk2⟩ := toNat_cases (n := m.runs.length) a2 a4
      rw [hk] at a1
      obtain ⟨r, hrr⟩ : ∃ r, m.runs[k]? = some r := ⟨_, List.getElem?_eq_getElem hk2⟩
      obtain ⟨_, hg⟩ := List.getElem?_eq_some_iff.1 hrr
      obtain ⟨r', p', c1, c2, c3, c4⟩ := law88 bs (p + 2) r hb (by omega) (by omega) (t7 r (List.mem_of_getElem? hrr))
      simp only [rdBox, Run.c] at c1
      simp [c155, rdBox, w0, a1, b1, k0, k1, k2, k3, k4, k5, k6, k7, hR, hRI, hk2, hg, c1]
      refine ⟨_, p', rfl, by omega, by omega, { m with runs := m.runs.set k r' }, by simp [List.map_set], t1, t2, t3, t4, t5, by simpa using t6, fun x hx => ?_, t8, t9, t10, t11⟩
      rcases List.mem_or_eq_of_mem_set hx with h | h
      · exact t7 x h
      · rw [h]; exact c4
    · have hRI : ¬ (0 : Int) < m.runs.length := by omega
      simp [c155, rdBox, w0, a1, b1, k0, k1, k2, k3, k4, k5, k6, k7, hR, hRI]
      exact ⟨_, p + 2, rfl, by omega, by omega, m, by simp, t1, t2, t3, t4, t5, t6, t7, t8, t9, t10, t11⟩
  by_cases k8 : pickV bs (p + 1) 12 = 8
  · obtain ⟨c1, c2, c3⟩ := law89 bs (p + 2) 4 hb (by omega) (by omega) (by omega)
    obtain ⟨d1, d2, d3⟩ := law89 bs (p + 3) 2 hb (by omega) (by omega) (by omega)
    obtain ⟨e1, e2, e3⟩ := law89 bs (p + 4) 3 hb (by omega) (by omega) (by omega)
    obtain ⟨f1, f2, f3⟩ := law89 bs (p + 5) 70 hb (by omega) (by omega) (by omega)
    rw [show p + 2 + 1 = p + 3 by omega] at c1
    rw [show p + 3 + 1 = p + 4 by omega] at d1
    rw [show p + 4 + 1 = p + 5 by omega] at e1
    rw [show p + 5 + 1 = p + 6 by omega] at f1
    have c4 := c3 (by omega)
    have d4 := d3 (by omega)
    have e4 := e3 (by omega)
    have f4 := f3 (by omega)
    have b3' : (m.asks.length + 1) * 48 ≤ 140737488355328 := by omega
    have b4' : m.asks.length + 1 ≤ 140737488355328 := by omega
    simp only [rdBox] at c1 d1 e1 f1
    simp [c155, rdBox, w0, a1, b1, k0, k1, k2, k3, k4, k5, k6, k7, k8, c1, c2, c4, d1, d2, d4, e1, f1, takeRows, rowsPlain, b3', b4']
    refine ⟨_, p + 6, rfl, by omega, by omega, { m with asks := m.asks ++ [⟨selT [⟨#[]⟩, ⟨#[118, 111, 108]⟩, ⟨#[122, 122]⟩, ⟨#[42]⟩] (pickV bs (p + 2) 4), selT [⟨#[]⟩, ⟨#[99]⟩] (pickV bs (p + 3) 2), pickV bs (p + 4) 3, pickV bs (p + 5) 70⟩] }, by simp, t1, t2, t3, t4, t5, t6, t7, by simp; omega, mem_snoc t9 ⟨selT_inS (fun x hx => inS_mem (by simp at hx ⊢; rcases hx with rfl | rfl | rfl | rfl <;> simp)) _, selT_le (by simp; decide) _, pick_tame e2 e4 (by omega), pick_tame f2 f4 (by omega)⟩, t10, t11⟩
  by_cases k9 : pickV bs (p + 1) 12 = 9
  · obtain ⟨c1, c2, c3⟩ := law89 bs (p + 2) 3 hb (by omega) (by omega) (by omega)
    obtain ⟨d1, d2, d3⟩ := law89 bs (p + 3) 3 hb (by omega) (by omega) (by omega)
    obtain ⟨e1, e2, e3⟩ := law89 bs (p + 4) 5 hb (by omega) (by omega) (by omega)
    rw [show p + 2 + 1 = p + 3 by omega] at c1
    rw [show p + 3 + 1 = p + 4 by omega] at d1
    rw [show p + 4 + 1 = p + 5 by omega] at e1
    have c4 := c3 (by omega)
    have d4 := d3 (by omega)
    have e4 := e3 (by omega)
    have u1 : IntKind.i64.wrap (pickV bs (p + 3) 3 - 1) = pickV bs (p + 3) 3 - 1 := i64w (by omega) (by omega)
    have b3' : (m.gives.length + 1) * 48 ≤ 140737488355328 := by omega
    have b4' : m.gives.length + 1 ≤ 140737488355328 := by omega
    simp only [rdBox] at c1 d1 e1
    simp [c155, rdBox, w0, a1, b1, k0, k1, k2, k3, k4, k5, k6, k7, k8, k9, c1, c2, c4, d1, u1, e1, takeRows, rowsPlain, b3', b4']
    refine ⟨_, p + 5, rfl, by omega, by omega, { m with gives := m.gives ++ [⟨selT [⟨#[]⟩, ⟨#[118, 111, 108]⟩, ⟨#[122, 122]⟩] (pickV bs (p + 2) 3), ⟨#[99]⟩, pickV bs (p + 3) 3 - 1, pickV bs (p + 4) 5⟩] }, by simp, t1, t2, t3, t4, t5, t6, t7, t8, t9, by simp; omega, mem_snoc t11 ⟨selT_inS (fun x hx => inS_mem (by simp at hx ⊢; rcases hx with rfl | rfl | rfl <;> simp)) _, (show (⟨#[99]⟩ : T).size ≤ 1000 by decide), ⟨by simp only; omega, by simp only; omega⟩, pick_tame e2 e4 (by omega)⟩⟩
  by_cases k10 : pickV bs (p + 1) 12 = 10
  · obtain ⟨c1, c2, c3⟩ := law89 bs (p + 2) 6 hb (by omega) (by omega) (by omega)
    rw [show p + 2 + 1 = p + 3 by omega] at c1
    have c4 := c3 (by omega)
    have u1 : IntKind.i64.wrap (1 + pickV bs (p + 2) 6) = 1 + pickV bs (p + 2) 6 := i64w (by omega) (by omega)
    have b3' : (m.runs.length + 1) * 104 ≤ 140737488355328 := by omega
    have b4' : m.runs.length + 1 ≤ 140737488355328 := by omega
    simp only [rdBox] at c1
    simp [c155, rdBox, w0, a1, b1, k0, k1, k2, k3, k4, k5, k6, k7, k8, k9, k10, c1, u1, takeRows, rowsPlain, b3', b4']
    refine ⟨_, p + 3, rfl, by omega, by omega, { m with runs := m.runs ++ [⟨⟨⟨#[122, 122]⟩, 1, ⟨#[]⟩, 0, 0, 0, 0⟩, 1 + pickV bs (p + 2) 6, 0, 0, 0⟩] }, by simp, t1, t2, t3, t4, t5, by simp; omega, mem_snoc t7 ⟨⟨(show (⟨#[122, 122]⟩ : T).size ≤ 1000 by decide), by simp [tame], inS_mem (by simp), by simp [tame], by simp [tame], by simp [tame], by simp [tame]⟩, ⟨by simp only; omega, by simp only; omega⟩, by simp [tame], by simp [tame], by simp [tame]⟩, t8, t9, t10, t11⟩
  · have b3' : m.asks.length * 48 ≤ 140737488355328 := by omega
    have b4' : m.asks.length ≤ 140737488355328 := by omega
    have hpl : rowsPlain (m.asks.map Ask.c) = true := by simp [rowsPlain]
    simp [c155, rdBox, w0, a1, b1, k0, k1, k2, k3, k4, k5, k6, k7, k8, k9, k10, takeRows, hpl, b3', b4']
    exact ⟨_, p + 2, rfl, by omega, by omega, { m with gives := m.asks }, by simp, t1, t2, t3, t4, t5, t6, t7, t8, t9, t8, t9⟩
end Go.Proofs.YtpiljklnekefoaaGreatDoor

namespace Go.Proofs.YtpiljklnekefoaaGreatDoor
open Go
set_option linter.unusedSimpArgs false
set_option maxRecDepth 100000

def cellsA (n : Nat) (m : Mate) : List AV := [.str m.name, .bool m.up, .int .i64 m.clock, .bool m.known, .int .i64 m.seen, .ref n, .ref (n + 1), .ref (n + 2), .ref (n + 3)]
def arrsA (m : Mate) : List AO := [.arr 7 (m.wants.map Want.c), .arr 11 (m.runs.map Run.c), .arr 4 (m.asks.map Ask.c), .arr 4 (m.gives.map Ask.c)]
def head116a (bs : List Int) (p d : Int) (m : Mate) (i : Nat) : St := hd [(2, .ptr 1 0 0), (3, .ptr 2 0 0), (4, .int .i64 d), (5, .int .i64 i)] (rdBox bs p :: .box zeroCells :: .box (cellsA 3 m) :: arrsA m) 1
def head116b (bs : List Int) (p : Int) (m : Mate) (i : Nat) : St := hd [(0, .ptr 0 0 0), (2, .ptr 1 0 0), (3, .ptr 2 0 0), (6, .int .i64 i)] (rdBox bs p :: .box zeroCells :: .box (cellsA 3 m) :: arrsA m) 1

structure Drawn (m : Mate) : Prop where
  small : m.small
  nasks : m.asks.length ≤ 20
  ngives : m.gives.length ≤ 20

theorem law116d (bs : List Int) (p : Int) (hb : Code bs) (h0 : 0 ≤ p) (hp : p ≤ 800000000) : Ends (F 116 [.ptr 0 0 0] [rdBox bs p]) (Drew bs p 200 fun x => ∃ m' : Mate, x = .agg (m'.c .own) ∧ Drawn m') := by
  refine F_ends fn116 rfl ?_
  obtain ⟨_, c1, x1, p1, rfl, c2, c3, m, rfl, hm, hc1, hc2⟩ := law156 bs p hb h0 (by omega)
  obtain ⟨a1, a2, a3⟩ := law89 bs p1 24 hb (by omega) (by omega) (by omega)
  have hs : Drawn m := ⟨hm.small (by omega), Nat.le_trans hm.nasks (by omega), Nat.le_trans hm.ngives (by omega)⟩
  have hQ : ∀ p' : Int, p ≤ p' → p' ≤ p + 200 → ∀ m' : Mate, Drawn m' → Drew bs p 200 (fun x => ∃ m' : Mate, x = .agg (m'.c .own) ∧ Drawn m') (.agg (m'.c .own), [some (rdBox bs p')]) := fun p' h1 h2 m' h3 => ⟨_, p', rfl, h1, h2, m', rfl, h3⟩
  simp only [rdBox] at c1 a1
  simp only [Mate.c] at c1
  by_cases k0 : pickV bs p1 24 = 0 ∨ pickV bs p1 24 = 1
  · obtain ⟨_, d1, x2, p2, rfl, d2, d3, m2, rfl, hm2⟩ := law155 bs (p1 + 1) m hb (by omega) (by omega) hm ⟨by omega, by omega⟩
    have q := hQ p2 (by omega) (by omega) m2 ⟨hm2.small (by omega), hm2.nasks, hm2.ngives⟩
    simp only [rdBox, Mate.c] at d1 q
    rcases k0 with k0 | k0 <;> simp [c116, rdBox, c1, a1, k0, d1] <;> simpa using q
  obtain ⟨k0, k1⟩ := not_or.1 k0
  by_cases k2 : pickV bs p1 24 = 2
  · obtain ⟨b1, b2, b3⟩ := law89 bs (p1 + 1) 6 hb (by omega) (by omega) (by omega)
    have b4 := b3 (by omega)
    rw [show p1 + 1 + 1 = p1 + 2 by omega] at b1
    simp only [rdBox] at b1
    have hl := hm.nruns
    generalize hd : IntKind.i64.wrap (IntKind.i64.wrap (1000000 - pickV bs (p1 + 1) 6) - m.clock) = d
    simp [c116, rdBox, c1, a1, k0, k1, k2, b1, hd]
    refine loop_end (K := fin [CRes.cell 2 9 true] 1) (σ := Nat × Mate) (fun z => head116a bs (p1 + 2) d z.2 z.1) (fun z => z.1 ≤ z.2.runs.length ∧ z.2.runs.length ≤ 20 ∧ Drawn z.2) (fun z => z.2.runs.length - z.1) (fun z Y hinv hY => ?_) (0, { m with clock := IntKind.i64.wrap (m.clock + d) }) ?_ ⟨Nat.zero_le _, by simp only; omega, ⟨hs.small.wants, hs.small.runs, hs.small.asks, hs.small.gives⟩, hs.nasks, hs.ngives⟩ (by unfold big; simp only; omega)
    · obtain ⟨i, x⟩ := z
      obtain ⟨g1, g2, g3⟩ := hinv
      simp only at g1 g2 g3 hY ⊢
      by_cases hi : i < x.runs.length
      · have hiI : (i : Int) < x.runs.length := by omega
        have hw : IntKind.i64.wrap ((i : Int) + 1) = (i : Int) + 1 := i64w (by omega) (by omega)
        obtain ⟨r, hrr⟩ : ∃ r, x.runs[i]? = some r := ⟨_, List.getElem?_eq_getElem hi⟩
        obtain ⟨_, hg⟩ := List.getElem?_eq_some_iff.1 hrr
        cases e : sEq r.want.hold ⟨#[]⟩
        · simp [head116a, rdBox, c116b0, cellsA, arrsA, hiI, hi, hg, e]
          refine hY (i + 1, { x with runs := x.runs.set i { r with til := IntKind.i64.wrap (r.til + d) } }) _ ⟨by simp; omega, by simp; omega, ⟨g3.small.wants, by simpa using g3.small.runs, g3.small.asks, g3.small.gives⟩, g3.nasks, g3.ngives⟩ (by simp; omega) ?_
          simp [head116a, rdBox, cellsA, arrsA, zeroCells, hw, List.map_set]
        · simp [head116a, rdBox, c116b0, cellsA, arrsA, hiI, hi, hg, e]
          refine hY (i + 1, x) _ ⟨by simp only; omega, g2, g3⟩ (by simp only; omega) ?_
          simp [head116a, rdBox, cellsA, arrsA, zeroCells, hw]
      · have hiI : ¬ (i : Int) < x.runs.length := by omega
        have q := hQ (p1 + 2) (by omega) (by omega) x g3
        simp only [rdBox, Mate.c] at q
        simp [head116a, rdBox, c116b0, cellsA, arrsA, zeroCells, hiI]
        simpa using q
    · simp [head116a, rdBox, cellsA, arrsA, zeroCells]
  by_cases k3 : pickV bs p1 24 = 3
  · cases hu : m.up
    · have q := hQ (p1 + 1) (by omega) (by omega) m hs
      simp only [rdBox, Mate.c] at q
      simp [c116, rdBox, c1, a1, k0, k1, k2, k3, hu]
      simpa [hu] using q
    · have hl := hm.nruns
      simp [c116, rdBox, c1, a1, k0, k1, k2, k3, hu]
      refine loop_end (K := fin [CRes.cell 2 9 true] 1) (σ := Nat × Int × Mate) (fun z => head116b bs z.2.1 z.2.2 z.1) (fun z => z.1 ≤ z.2.2.runs.length ∧ z.2.2.runs.length ≤ 20 ∧ p1 + 1 ≤ z.2.1 ∧ z.2.1 ≤ p1 + 1 + z.2.2.runs.length ∧ Drawn z.2.2) (fun z => 20 - z.2.2.runs.length) (fun z Y hinv hY => ?_) (0, p1 + 1, m) ?_ ⟨Nat.zero_le _, by simp only; omega, by simp, by simp only; omega, hs⟩ (by unfold big; simp only; omega)
      · obtain ⟨i, q, x⟩ := z
        obtain ⟨g1, g2, g4, g5, g3⟩ := hinv
        simp only at g1 g2 g3 g4 g5 hY ⊢
        obtain ⟨e1, e2, e3⟩ := law89 bs q 2 hb (by omega) (by omega) (by omega)
        have e4 := e3 (by omega)
        have u1 : IntKind.i64.wrap (20 - pickV bs q 2) = 20 - pickV bs q 2 := i64w (by omega) (by omega)
        simp only [rdBox] at e1
        by_cases hi : (x.runs.length : Int) < 20 - pickV bs q 2
        · have hw : IntKind.i64.wrap ((i : Int) + 1) = (i : Int) + 1 := i64w (by omega) (by omega)
          have hw2 : ∃ y, IntKind.u8.wrap (IntKind.i64.wrap (97 + (i : Int))) = y := ⟨_, rfl⟩
          obtain ⟨y, hw2⟩ := hw2
          have l1 : (x.runs.length + 1) * 104 ≤ 140737488355328 := by omega
          have l2 : x.runs.length + 1 ≤ 140737488355328 := by omega
          have l3 : (⟨#[100]⟩ : T).size + (⟨#[UInt8.ofNat y.toNat]⟩ : T).size ≤ 9223372036854775807 := by
            have : (⟨#[100]⟩ : T).size = 1 := rfl
            have : (⟨#[UInt8.ofNat y.toNat]⟩ : T).size = 1 := rfl
            omega
          simp [head116b, rdBox, c116b1, cellsA, arrsA, e1, u1, hi, hw2, toBytes, l1, l2, l3, takeRows, rowsPlain]
          refine hY (i + 1, q + 1, { x with runs := x.runs ++ [⟨⟨⟨#[100]⟩ ++ ⟨#[UInt8.ofNat y.toNat]⟩, 1, ⟨#[]⟩, 0, 0, 0, 2⟩, 4, 0, 0, 0⟩] }) _ ⟨by simp; omega, by simp; omega, by simp only; omega, by simp; omega, ⟨g3.small.wants, by simp; omega, g3.small.asks, g3.small.gives⟩, g3.nasks, g3.ngives⟩ (by simp; omega) ?_
          simp [head116b, rdBox, cellsA, arrsA, zeroCells, hw]
        · have qq := hQ (q + 1) (by omega) (by omega) x g3
          simp only [rdBox, Mate.c] at qq
          simp [head116b, rdBox, c116b1, cellsA, arrsA, zeroCells, e1, u1, hi]
          simpa using qq
      · simp [head116b, rdBox, cellsA, arrsA, zeroCells, hu]
  · have q := hQ (p1 + 1) (by omega) (by omega) m hs
    simp only [rdBox, Mate.c] at q
    simp [c116, rdBox, c1, a1, k0, k1, k2, k3]
    simpa using q

end Go.Proofs.YtpiljklnekefoaaGreatDoor

namespace Go.Proofs.YtpiljklnekefoaaGreatDoor
open Go
set_option linter.unusedSimpArgs false

theorem textsOf_map : ∀ xs : List T, textsOf (xs.map fun x => [.str x]) = some xs
  | [] => rfl
  | x :: xs => by simp [textsOf, textsOf_map xs]
theorem law230 (xs : List T) (sep : T) (h : xs.length ≤ 140737488355328) (h2 : (joinT xs sep).size ≤ 140737488355328) : F 230 [.sl .bor 1 (xs.map fun x => [.str x]), .str sep] [] = some (.str (joinT xs sep), []) :=
  lim_prim rfl (by rw [show P.prim = prim from rfl]; simp [prim, primGo, textsOf_map, h, h2])
theorem law231 (n : Int) (h : -9223372036854775808 ≤ n) (h2 : n ≤ 9223372036854775807) : F 231 [.int .i64 n] [] = some (.str (itoaT n), []) :=
  lim_prim rfl (by rw [show P.prim = prim from rfl]; simp [prim, primGo, h, h2])
/-! ### Sizes -/
theorem text_ext {a b : T} (h : a.data.toList = b.data.toList) : a = b := by
  cases a; cases b; congr; exact Array.ext' h
theorem text_append (a b : T) : (a ++ b).data.toList = a.data.toList ++ b.data.toList := by
  simp
end Go.Proofs.YtpiljklnekefoaaGreatDoor
