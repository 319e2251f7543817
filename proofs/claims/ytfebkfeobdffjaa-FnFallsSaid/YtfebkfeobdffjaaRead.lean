/- The arguments of a law, read as the abstract machine's values; a whole call from outside. -/
import Derived.Test.YtfebkfeobdffjaaTop
import Derived.Carry
import Derived.ChangeArms
import Derived.DataReads
namespace Go.Proofs.Ytfebkfeobdffjaa
open Go Go.RowKit Go.WideShapes
set_option linter.unusedSimpArgs false

/-- The shape of a value's cells. -/
inductive Sh where
  | bool
  | int (k : IntKind)
  | str
  | sl (row : List Sh)

mutual
def Fits : Sh → AV → Prop
  | .bool, c => ∃ b, c = .bool b
  | .int k, c => ∃ n, c = .int k n ∧ (Lit.int k n).wf = true
  | .str, c => ∃ s : ByteArray, c = .str s ∧ s.size ≤ maxLen
  | .sl row, c => ∃ xs, c = .sl .bor row.length xs ∧ xs.length ≤ maxLen ∧ ∀ r ∈ xs, FitsL row r
def FitsL : List Sh → List AV → Prop
  | [], [] => True
  | s :: ss, c :: cs => Fits s c ∧ FitsL ss cs
  | _, _ => False
end

theorem FitsL.append : ∀ {as bs : List Sh} {cs ds : List AV}, FitsL as cs → FitsL bs ds → FitsL (as ++ bs) (cs ++ ds)
  | [], _, [], _, _, h => h
  | _ :: _, _, _ :: _, _, h, k => by
    simp only [FitsL, List.cons_append] at h ⊢
    exact ⟨h.1, FitsL.append h.2 k⟩
  | [], _, _ :: _, _, h, _ => by simp [FitsL] at h
  | _ :: _, _, [], _, h, _ => by simp [FitsL] at h

theorem FitsL.len : ∀ {as : List Sh} {cs : List AV}, FitsL as cs → cs.length = as.length
  | [], [], _ => rfl
  | _ :: _, _ :: _, h => by simp only [FitsL] at h; simp [FitsL.len h.2]
  | [], _ :: _, h => by simp [FitsL] at h
  | _ :: _, [], h => by simp [FitsL] at h

def shFs (F : TypeId → Option (List Sh)) (P : Program) : Nat → List Field → Option (List Sh)
  | _, [] => some []
  | off, f :: fs => match F f.type with
    | some a => if f.offset = off ∧ P.cellsOf f.type = a.length then match shFs F P (off + a.length) fs with
      | some b => some (a ++ b)
      | none => none
      else none
    | none => none

/-- The shape of a type's cells. -/
def shOf (P : Program) : Nat → TypeId → Option (List Sh)
  | 0, _ => none
  | d + 1, t => match P.underlying t with
    | some .bool => some [.bool]
    | some (.int k) => some [.int k]
    | some .string => some [.str]
    | some (.slice e) => match shOf P d e with
      | some row => if P.cellsOf e = row.length ∧ row.length ≠ 0 then some [.sl row] else none
      | none => none
    | some (.struct fs) => match shFs (shOf P d) P 0 fs.toList with
      | some a => if P.cellsOf t = a.length then some a else none
      | none => none
    | _ => none

section
variable {H : Type} {enc : TypeId × Value → H} {P : Program} {W : World} {base : Nat} {spare : Nat → Bool} {held : Bool}

def Old (W : World) (b : Nat) : Prop := b < W.heap.size

/-- Cells that read as these. -/
structure ReadL (W : World) (cs : List Value) (sh : List Sh) (avs : List AV) : Prop where
  fits : FitsL sh avs
  len : cs.length = avs.length
  bor : ∀ (j : Nat) (u : Value) (c : AV), cs[j]? = some u → avs[j]? = some c → Bor W (Old W) u c

theorem ReadL.one {u : Value} {s : Sh} {c : AV} (hf : Fits s c) (hb : Bor W (Old W) u c) : ReadL W [u] [s] [c] := by
  refine ⟨⟨hf, trivial⟩, rfl, fun j v d hv hd => ?_⟩
  cases j with
  | zero => simp only [List.getElem?_cons_zero, Option.some.injEq] at hv hd; subst hv; subst hd; exact hb
  | succ j => simp at hv

theorem fields_read {F : TypeId → Option (List Sh)} {n : Nat} {cs : List Value} : ∀ (fs : List Field) (off : Nat) (sh : List Sh), shFs F P off fs = some sh → cs.length = off + sh.length →
    (∀ f ∈ fs, ∀ a, F f.type = some a → ∀ cs' y, DataW.trod enc P W base spare held n f.type cs' = some y → ∃ avs, ReadL W cs' a avs) →
    (∀ f ∈ fs, ∃ y, DataW.trod enc P W base spare held n f.type ((cs.drop f.offset).take (P.cellsOf f.type)) = some y) → ∃ avs, ReadL W (cs.drop off) sh avs
  | [], off, sh, hs, hl, _, _ => by
    simp only [shFs, Option.some.injEq] at hs
    subst hs
    refine ⟨[], trivial, by simp at hl ⊢; omega, fun j u c _ hc => by simp at hc⟩
  | f :: fs, off, sh, hs, hl, hF, hr => by
    simp only [shFs] at hs
    cases hf : F f.type with
    | none => rw [hf] at hs; cases hs
    | some a =>
      rw [hf] at hs
      simp only at hs
      split at hs
      case isFalse => cases hs
      rename_i hoff
      obtain ⟨hoff, hsz⟩ := hoff
      cases hb : shFs F P (off + a.length) fs with
      | none => rw [hb] at hs; cases hs
      | some b =>
        rw [hb] at hs
        simp only [Option.some.injEq] at hs
        subst hs
        rw [List.length_append] at hl
        obtain ⟨y, hy⟩ := hr f List.mem_cons_self
        obtain ⟨as, h1⟩ := hF f List.mem_cons_self a hf _ y hy
        obtain ⟨bs, h2⟩ := fields_read fs (off + a.length) b hb (by omega) (fun g hg => hF g (List.mem_cons_of_mem _ hg)) (fun g hg => hr g (List.mem_cons_of_mem _ hg))
        rw [hoff, hsz] at h1
        have hsplit : cs.drop off = (cs.drop off).take a.length ++ cs.drop (off + a.length) := by rw [← List.drop_drop, List.take_append_drop]
        have hla : ((cs.drop off).take a.length).length = a.length := by simp; omega
        have hlas := h1.fits.len
        refine ⟨as ++ bs, h1.fits.append h2.fits, by rw [hsplit, List.length_append, h1.len, h2.len, List.length_append], fun j u c hu hc => ?_⟩
        rw [hsplit] at hu
        by_cases hj : j < a.length
        · rw [List.getElem?_append_left (by omega)] at hu hc
          exact h1.bor j u c hu hc
        · rw [List.getElem?_append_right (by omega), hla] at hu
          rw [List.getElem?_append_right (by omega), hlas] at hc
          exact h2.bor _ u c hu hc

theorem cells_read : ∀ (d : Nat) (t : TypeId) (sh : List Sh), shOf P d t = some sh → ∀ (n : Nat) (cs : List Value) (y : DataW H × List MemPlace), DataW.trod enc P W base spare held n t cs = some y → ∃ avs, ReadL W cs sh avs
  | 0, _, _, hs => by cases hs
  | d + 1, t, sh, hs => by
    intro n cs y hy
    simp only [shOf] at hs
    cases ht : P.underlying t with
    | none => rw [ht] at hs; cases hs
    | some td =>
      rw [ht] at hs
      cases td <;> simp only [reduceCtorEq, Option.some.injEq] at hs
      · subst hs
        obtain ⟨b, rfl, _⟩ := DataW.trod_bool ht hy
        exact ⟨[.bool b], .one ⟨b, rfl⟩ (.bool b)⟩
      · subst hs
        obtain ⟨k, rfl, _, hw⟩ := DataW.trod_int ht hy
        exact ⟨[.int _ k], .one ⟨k, rfl, hw⟩ (.int _ _)⟩
      · subst hs
        obtain ⟨s, rfl, _, hw⟩ := DataW.trod_string ht hy
        exact ⟨[.str s], .one ⟨s, rfl, hw⟩ (.str _)⟩
      · rename_i e
        cases he : shOf P d e with
        | none => rw [he] at hs; cases hs
        | some row =>
          rw [he] at hs
          simp only at hs
          split at hs
          case isFalse => cases hs
          rename_i hsz
          obtain ⟨hsz, hpos⟩ := hsz
          simp only [Option.some.injEq] at hs
          subst hs
          rcases DataW.trod_slice ht hy with ⟨rfl, _⟩ | ⟨a, len, cap, elems, rest, m, _, rfl, _, _, hlc, hcm, hel, hget, _⟩
          · exact ⟨[.sl .bor row.length []], .one ⟨[], rfl, by simp, by simp⟩ (.nil _ _ _ _)⟩
          · by_cases hz : len = 0
            · subst hz
              exact ⟨[.sl .bor row.length []], .one ⟨[], rfl, by simp, by simp⟩ (.nil _ _ _ _)⟩
            · -- every row
              have hrow : ∀ i, ∃ avs csi, i < len → (∀ j, j < row.length → W.cell? ((a.add (i * row.length)).add j) = csi[j]?) ∧ csi.length = row.length ∧ ReadL W csi row avs := by
                intro i
                by_cases hi : i < len
                · have hgi := hget i hi
                  rw [show elems[i]? = some (elems[i]'(by omega)) from List.getElem?_eq_getElem _] at hgi
                  obtain ⟨csi, hc1, hc2⟩ := Option.bind_eq_some_iff.1 hgi
                  rw [hsz] at hc1
                  obtain ⟨_, hl, hcell⟩ := World.cells?_some hc1
                  obtain ⟨avs, hav⟩ := cells_read d e row he m csi _ hc2
                  exact ⟨avs, csi, fun _ => ⟨hcell, hl, hav⟩⟩
                · exact ⟨[], [], fun h => absurd h hi⟩
              let avr : Nat → List AV := fun i => (hrow i).choose
              let csr : Nat → List Value := fun i => (hrow i).choose_spec.choose
              have hr : ∀ i, i < len → (∀ j, j < row.length → W.cell? ((a.add (i * row.length)).add j) = (csr i)[j]?) ∧ (csr i).length = row.length ∧ ReadL W (csr i) row (avr i) := fun i hi => (hrow i).choose_spec.choose_spec hi
              obtain ⟨h01, h02, _⟩ := hr 0 (by omega)
              have hc00 : (csr 0)[0]? = some ((csr 0)[0]'(by omega)) := List.getElem?_eq_getElem _
              have hcell0 := h01 0 (by omega)
              rw [hc00] at hcell0
              have hspot : a.spot = none := by
                have := World.cell?_spot hcell0
                obtain ⟨b, off, sp⟩ := a
                unfold Addr.add at this
                split at this <;> split at this <;> simp_all
              obtain ⟨b, off, sp⟩ := a
              simp only at hspot
              subst hspot
              have hadd : ∀ i j, ((⟨b, off, none⟩ : Addr).add (i * row.length)).add j = ⟨b, off + i * row.length + j, none⟩ := fun i j => by rw [add_none, add_none]
              have hold : Old W b := by
                rw [hadd] at hcell0
                unfold World.cell? at hcell0
                unfold Old
                rcases Nat.lt_or_ge b W.heap.size with h | h
                · exact h
                · simp [Array.getElem?_eq_none h] at hcell0
              let xs : List (List AV) := (List.range len).map avr
              have hxl : xs.length = len := by simp [xs]
              have hxi : ∀ i r, xs[i]? = some r → i < len ∧ r = avr i := fun i r hi => by
                have h1 := (List.getElem?_eq_some_iff.1 hi).1
                have h2 : i < len := by omega
                simp only [xs, List.getElem?_map, List.getElem?_range h2, Option.map_some, Option.some.injEq] at hi
                exact ⟨h2, hi.symm⟩
              refine ⟨[.sl .bor row.length xs], .one ⟨xs, rfl, by omega, fun r hrm => ?_⟩ ?_⟩
              · obtain ⟨i, hi⟩ := List.getElem?_of_mem hrm
                obtain ⟨h1, rfl⟩ := hxi i r hi
                exact (hr i h1).2.2.fits
              · have hb := Bor.sl (w := W) (R := Old W) .bor row.length xs b off cap (fun i j => (csr i)[j]?.getD undef) (by omega) hold (fun r hrm => by
                    obtain ⟨i, hi⟩ := List.getElem?_of_mem hrm
                    obtain ⟨h1, rfl⟩ := hxi i r hi
                    exact (hr i h1).2.2.fits.len) (fun i j c hc => by
                    obtain ⟨r, h1, h2⟩ := cellAt_some.1 hc
                    obtain ⟨hi, rfl⟩ := hxi i r h1
                    obtain ⟨q1, q2, q3⟩ := hr i hi
                    have hj := (List.getElem?_eq_some_iff.1 h2).1
                    have hjl : j < row.length := by rw [← q3.fits.len]; exact hj
                    rw [← hadd, q1 j hjl, List.getElem?_eq_getElem (by omega)]; rfl) (fun i j c hc => by
                    obtain ⟨r, h1, h2⟩ := cellAt_some.1 hc
                    obtain ⟨hi, rfl⟩ := hxi i r h1
                    obtain ⟨q1, q2, q3⟩ := hr i hi
                    have hj := (List.getElem?_eq_some_iff.1 h2).1
                    have hjl : j < row.length := by rw [← q3.fits.len]; exact hj
                    have hu : (csr i)[j]? = some ((csr i)[j]'(by omega)) := List.getElem?_eq_getElem _
                    simp only [hu, Option.getD_some]
                    exact q3.bor j _ c hu h2)
                rw [hxl] at hb
                exact hb
      · rename_i fs
        cases hfs : shFs (shOf P d) P 0 fs.toList with
        | none => rw [hfs] at hs; cases hs
        | some a =>
          rw [hfs] at hs
          simp only at hs
          split at hs
          case isFalse => cases hs
          rename_i hsz
          simp only [Option.some.injEq] at hs
          subst hs
          obtain ⟨xs, m, _, _, hcl, hxl, hget⟩ := DataW.trod_struct ht hy
          have := fields_read (enc := enc) (W := W) (base := base) (spare := spare) (held := held) (n := m) (cs := cs) fs.toList 0 a hfs (by omega) (fun f _ a' ha cs' y hy => cells_read d f.type a' ha m cs' y hy) (fun f hf => by
            obtain ⟨i, hi⟩ := List.getElem?_of_mem hf
            have hi' : fs[i]? = some f := by simpa using hi
            have hlt := (Array.getElem?_eq_some_iff.1 hi').1
            exact ⟨xs[i]'(by omega), (hget i f hi').trans (List.getElem?_eq_getElem _)⟩)
          simpa using this
end
end Go.Proofs.Ytfebkfeobdffjaa
