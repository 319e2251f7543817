/- A law's call from outside: its arguments read, nothing below turned, its answer. -/
import Derived.Test.YtfebkfeobdffjaaRead
namespace Go.Proofs.Ytfebkfeobdffjaa
open Go Go.RowKit Go.WideShapes
set_option linter.unusedSimpArgs false

def cx0 (P : Program) (num : Nat → Option FuncId) (W : World) : Cx := ⟨P, num, Old W, fun _ => False, Old W, Old W, W, 0, fun _ => none, fun _ => undef⟩
def g0 (W : World) : Gh := ⟨fun _ => undef, fun _ _ => False, Old W, Old W, fun _ => False⟩

/-- An argument reads as this. -/
def ArgRel (num : Nat → Option FuncId) (W : World) (v : Value) (c : AV) : Prop := SRel num W (Old W) (g0 W) (fun _ => none) 0 v c

theorem mem0 (P : Program) (num : Nat → Option FuncId) (W : World) : Mem (cx0 P num W) (fun _ => none) 0 (g0 W) W :=
  ⟨fun _ _ h => (nomatch h), fun _ _ h => (nomatch h), fun _ _ _ _ _ h => (nomatch h), fun _ _ _ h => (nomatch h), fun _ h => h, fun _ h => h, fun _ h => .inl h, fun _ h => h, fun _ h => h, fun _ h => .inl h,
    fun _ h => absurd h (Nat.not_lt_zero _), fun _ _ h => absurd h (Nat.not_lt_zero _), fun _ h => h, fun _ h => ⟨h, fun h => h⟩, fun _ h => ⟨h, fun h => h⟩, FrameW.refl _ _⟩

/-- What came with the call from outside nobody writes. -/
theorem ArgRel.imm {num : Nat → Option FuncId} {W : World} {v : Value} {sz : Nat} {xs : List (List AV)} (h : ArgRel num W v (.sl .bor sz xs)) : ArgRel num W v (.sl .imm sz xs) := by
  cases h with
  | sl _ _ _ _ h1 hm _ _ => exact .sl _ _ _ _ h1 (fun _ => (hm rfl).md) (fun e he => by cases he) (by simp)

theorem fits_lend : ∀ {s : Sh} {c : AV}, Fits s c → c.lend .bor = c
  | .bool, c, h => by simp only [Fits] at h; obtain ⟨b, rfl⟩ := h; rfl
  | .int k, c, h => by simp only [Fits] at h; obtain ⟨n, rfl, _⟩ := h; rfl
  | .str, c, h => by simp only [Fits] at h; obtain ⟨s, rfl, _⟩ := h; rfl
  | .sl row, c, h => by simp only [Fits] at h; obtain ⟨xs, rfl, _⟩ := h; rfl

theorem FitsL.get : ∀ {ss : List Sh} {cs : List AV}, FitsL ss cs → ∀ (j : Nat) (c : AV), cs[j]? = some c → ∃ s, ss[j]? = some s ∧ Fits s c
  | [], [], _, j, c, h => by simp at h
  | s :: ss, d :: cs, h, j, c, hc => by
    simp only [FitsL] at h
    cases j with
    | zero => simp only [List.getElem?_cons_zero, Option.some.injEq] at hc; subst hc; exact ⟨s, rfl, h.1⟩
    | succ j => obtain ⟨s', h1, h2⟩ := FitsL.get h.2 j c (by simpa using hc); exact ⟨s', by simpa using h1, h2⟩
  | [], _ :: _, h, _, _, _ => by simp [FitsL] at h
  | _ :: _, [], h, _, _, _ => by simp [FitsL] at h

section
variable {H : Type} {enc : TypeId × Value → H} {P : Program} {num : Nat → Option FuncId} {W : World} {r : Reach} {b0 base : Nat} {spare : Nat → Bool} {held : Bool} {t : TypeId} {v : Value} {d : DataW H} {ps : List MemPlace}

theorem ReadL.arg {cs : List Value} {sh : List Sh} {avs : List AV} (h : ReadL W cs sh avs) {j : Nat} {u : Value} {c : AV} (hu : cs[j]? = some u) (hc : avs[j]? = some c) : ArgRel num W u c ∧ u.oneCell' = true := by
  obtain ⟨s, _, hs⟩ := h.fits.get j c hc
  have hb := h.bor j u c hu hc
  have := SRel.of_bor (num := num) (w := W) (R := Old W) (g := g0 W) (h := fun _ => none) (ep := 0) (m := .bor) hb (fun e he => by cases he) (by simp)
  rw [fits_lend hs] at this
  exact ⟨this, hb.one⟩

theorem arg_struct {fs : Array Field} (ht : P.underlying t = some (.struct fs)) {k : Nat} {sh : List Sh} (hs : shOf P k t = some sh) (hval : Value.okWide P W r b0 t v) (hd : DataW.Trod enc P W base spare held t v d ps) :
    ∃ avs, FitsL sh avs ∧ ArgRel num W v (.agg avs) := by
  obtain ⟨vs, rfl, _⟩ := okWide_struct ht hval
  obtain ⟨n, hn⟩ := hd
  obtain ⟨avs, ha⟩ := cells_read k t sh hs n _ _ hn
  simp only [Value.cells] at ha
  refine ⟨avs, ha.fits, .agg vs avs (by simpa using ha.len) (fun i u hu => ?_) (fun i u c hu hc => (ha.arg (num := num) (by simpa using hu) hc).1)⟩
  have hi := (Array.getElem?_eq_some_iff.1 hu).1
  have hl := ha.len
  rw [Array.length_toList] at hl
  exact (ha.arg (num := num) (j := i) (by simpa using hu) (List.getElem?_eq_getElem (by omega))).2

theorem arg_one {s : Sh} {k : Nat} (hs : shOf P k t = some [s]) (hv : v.cells.toList = [v]) (hd : DataW.Trod enc P W base spare held t v d ps) : ∃ c, Fits s c ∧ ArgRel num W v c := by
  obtain ⟨n, hn⟩ := hd
  obtain ⟨avs, ha⟩ := cells_read k t [s] hs n _ _ hn
  rw [hv] at ha
  have hl := ha.fits.len
  match avs, hl, ha with
  | [c], _, ha =>
    have hf := ha.fits
    simp only [FitsL, and_true] at hf
    exact ⟨c, hf, (ha.arg (j := 0) rfl rfl).1⟩

theorem arg_int {q : IntKind} (ht : P.underlying t = some (.int q)) (hval : Value.okWide P W r b0 t v) (hd : DataW.Trod enc P W base spare held t v d ps) : ∃ n, ArgRel num W v (.int q n) ∧ (Lit.int q n).wf = true := by
  obtain ⟨n, rfl⟩ := okWide_int ht hval
  obtain ⟨c, h1, h2⟩ := arg_one (num := num) (k := 1) (s := .int q) (by simp [shOf, ht]) rfl hd
  simp only [Fits] at h1
  obtain ⟨m, rfl, hw⟩ := h1
  exact ⟨m, h2, hw⟩

theorem arg_str (ht : P.underlying t = some .string) (hval : Value.okWide P W r b0 t v) (hd : DataW.Trod enc P W base spare held t v d ps) : ∃ s : ByteArray, ArgRel num W v (.str s) ∧ s.size ≤ maxLen := by
  obtain ⟨n, rfl⟩ := okWide_string ht hval
  obtain ⟨c, h1, h2⟩ := arg_one (num := num) (k := 1) (s := .str) (by simp [shOf, ht]) rfl hd
  simp only [Fits] at h1
  obtain ⟨m, rfl, hw⟩ := h1
  exact ⟨m, h2, hw⟩

theorem arg_slice {e : TypeId} (ht : P.underlying t = some (.slice e)) {k : Nat} {row : List Sh} (hs : shOf P k t = some [.sl row]) (hval : Value.okWide P W r b0 t v) (hd : DataW.Trod enc P W base spare held t v d ps) :
    ∃ xs, ArgRel num W v (.sl .bor row.length xs) ∧ xs.length ≤ maxLen ∧ ∀ x ∈ xs, FitsL row x := by
  obtain ⟨a, len, cap, rfl⟩ := okWide_slice ht hval
  obtain ⟨c, h1, h2⟩ := arg_one (num := num) (k := k) (s := .sl row) hs rfl hd
  simp only [Fits] at h1
  obtain ⟨xs, rfl, h3, h4⟩ := h1
  exact ⟨xs, h2, h3, h4⟩
end

/-- The arguments of a call, side by side. -/
inductive ArgsRel (num : Nat → Option FuncId) (W : World) : List Value → List AV → Prop
  | nil : ArgsRel num W [] []
  | cons (v : Value) (c : AV) (vs : List Value) (cs : List AV) (h : ArgRel num W v c) (hs : ArgsRel num W vs cs) : ArgsRel num W (v :: vs) (c :: cs)

theorem ArgsRel.get {num : Nat → Option FuncId} {W : World} {vs : List Value} {cs : List AV} (h : ArgsRel num W vs cs) : vs.length = cs.length ∧ ∀ (i : Nat) (v : Value) (c : AV), vs[i]? = some v → cs[i]? = some c → ArgRel num W v c := by
  induction h with
  | nil => exact ⟨rfl, fun i v c hv => by simp at hv⟩
  | cons v c vs cs h _ ih =>
    refine ⟨by simp [ih.1], fun i u d hu hd => ?_⟩
    cases i with
    | zero => simp only [List.getElem?_cons_zero, Option.some.injEq] at hu hd; subst hu; subst hd; exact h
    | succ i => exact ih.2 i u d (by simpa using hu) (by simpa using hd)

/-- A call from outside that answers with a truth value, and turns nothing that was there. -/
theorem law_calls {P : Program} {num : Nat → Option FuncId} {f : FuncId} {fn : Func} {body : Code} (hf : P.funcs[f]? = some fn) (hb : fn.body = some body) (hn : fn.name ≠ "runtime.NumGoroutine") {args : List AV} {ans : Bool}
    (hC : Contract P num f args [] (.bool ans) []) {W : World} {vs : Array Value} (ha : ArgsRel num W vs.toList args) : Calls P f vs W fun e W' => e = .returned (.bool ans) ∧ Below W.heap.size W W' := by
  obtain ⟨hl, hg⟩ := ha.get
  rw [Array.length_toList] at hl
  have h := hC (cx0 P num W) (g0 W) W vs rfl rfl rfl rfl rfl rfl (fun _ h => h.elim) (mem0 P num W) hl (fun i v c hv hc => hg i v c (by simpa using hv) hc)
  have h2 := h ⟨some 0, .move (.tmp 0), 0, "", #[], none⟩ ⟨#[undef], []⟩ (fun a' w' => ∃ I N S fo, Post (cx0 P num W) w' (a'.tmps.getD 0 undef) (.bool ans) [] I N S fo) (fun _ _ _ => False) (fun v w' hp => by
    have : ((⟨#[undef], []⟩ : Act).put (some 0) v).tmps.getD 0 undef = v := by simp [Act.put]
    rw [this]; exact hp)
  have hcf : (callFunc f vs).run P W = .ok (.enter f vs) W := by simp [callFunc, hf, hn, hb]
  rw [hcf, Oper.upon_enter] at h2
  refine h2.mono fun e w' he => ?_
  cases e with
  | panicked _ => exact he.elim
  | outgrown => obtain ⟨_, _, h⟩ := he; exact h.elim
  | returned v =>
    obtain ⟨I, N, S, fo, hp⟩ := he
    have hv : ((⟨#[undef], []⟩ : Act).put (some 0) v).tmps.getD 0 undef = v := by simp [Act.put]
    rw [hv] at hp
    have hres := hp.res
    have : v = .bool ans := by
      cases hres with
      | one _ _ _ h _ => cases h with
        | one _ _ _ h _ => cases h; rfl
    subst this
    exact ⟨rfl, hp.frame.os, hp.frame.tape, hp.frame.output, hp.frame.size, fun k hk => hp.frame.block k hk (fun h => h)⟩
end Go.Proofs.Ytfebkfeobdffjaa
