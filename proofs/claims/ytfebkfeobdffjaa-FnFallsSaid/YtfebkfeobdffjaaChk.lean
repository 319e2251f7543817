/- Whether an operation of the model is the abstract one, and that it then does what that says. -/
import Derived.Test.YtfebkfeobdffjaaInn
import Derived.Test.YtfebkfeobdffjaaSwap
namespace Go.Proofs.Ytfebkfeobdffjaa
open Go Go.RowKit
set_option linter.unusedSimpArgs false

/-! ### The check -/
section
variable (P : Program) (num : Nat → Option FuncId)

def opdB : Operand → Opd → Bool
  | .tmp t, .tmp t' => t == t'
  | .const v, .const c => zeroB v c
  | .func f, .const (.fn k) => num k == some f
  | _, _ => false

def optB : Option Operand → Option Opd → Bool
  | none, none => true
  | some x, some y => opdB num x y
  | _, _ => false

def argsB : List Operand → List Opd → Bool
  | [], [] => true
  | x :: xs, y :: ys => opdB num x y && argsB xs ys
  | _, _ => false

def partsB (fs : Array Field) : List (Nat × Operand) → List (Nat × Nat × Opd) → Bool
  | [], [] => true
  | (i, x) :: ps, (off, n, y) :: qs => (match fs[i]? with | some f => f.offset == off && szT P f.type == n | none => false) && (opdB num x y && partsB fs ps qs)
  | _, _ => false

def rowsB : List (Nat × Operand) → List (Nat × Opd) → Bool
  | [], [] => true
  | (i, x) :: ps, (j, y) :: qs => i == j && (opdB num x y && rowsB ps qs)
  | _, _ => false

/-- The type's width, and its zero value. -/
def infoB (t : TypeId) (f : TypeInfo → Value → Bool) : Bool :=
  match P.info? t with
  | some i => match i.zero with
    | some z => f i z
    | none => false
  | none => false

def sizeB (t : TypeId) (f : TypeInfo → Bool) : Bool :=
  match P.info? t with
  | some i => f i
  | none => false

def sliceB (t : TypeId) (f : TypeId → Bool) : Bool :=
  match P.underlying t with
  | some (.slice e) => f e
  | _ => false

def strB (t : TypeId) : Bool :=
  match P.underlying t with
  | some .string => true
  | _ => false

def boolB (t : TypeId) : Bool :=
  match P.underlying t with
  | some .bool => true
  | _ => false

def byteB (t : TypeId) : Bool :=
  match P.underlying t with
  | some (.int .u8) => true
  | _ => false

def mapB (kb : Bool) (t : TypeId) (f : TypeId → Bool) : Bool :=
  match P.underlying t with
  | some (.map k e) => (if kb then boolB P k else strB P k) && f e
  | _ => false

def sameOpd : Operand → Operand → Bool
  | .tmp t, .tmp t' => t == t'
  | .const (.int k n), .const (.int k' n') => k == k' && n == n'
  | _, _ => false

def chkOp (o : Oper) (c : COp) : Bool :=
  match c with
  | .mov y => match o.op with
    | .move x => opdB num x y
    | .assign x => opdB num x y
    | _ => false
  | .sconv y => match o.op with
    | .convert t t' x => strB P t && (strB P t' && opdB num x y)
    | _ => false
  | .nilck y => match o.op with
    | .nilCheck x => opdB num x y
    | _ => false
  | .pick y1 y2 y3 => match o.op with
    | .pick x1 x2 x3 => opdB num x1 y1 && (opdB num x2 y2 && opdB num x3 y3)
    | _ => false
  | .bin op' y1 y2 => match o.op with
    | .binOp op _ x1 x2 _ => decide (op = op') && (opdB num x1 y1 && opdB num x2 y2)
    | _ => false
  | .beq neg y1 y2 => match o.op with
    | .binOp op t x1 x2 _ => decide (op = if neg then .neq else .eql) && (boolB P t && (opdB num x1 y1 && opdB num x2 y2))
    | _ => false
  | .eqs neg ks y1 y2 => match o.op with
    | .binOp op t x1 x2 _ => decide (op = if neg then .neq else .eql) && ((match P.underlying t with | some (.struct _) => true | _ => false) && (!P.eqGuardType P.depth t && (decide (shapeTy P 10 t = some ks) && (opdB num x1 y1 && opdB num x2 y2))))
    | _ => false
  | .un op' y => match o.op with
    | .unOp op _ x => decide (op = op') && opdB num x y
    | _ => false
  | .conv k y => match o.op with
    | .convert t t' x => (P.underlying t).isSome && ((match P.underlying t' with | some (.int k') => decide (k' = k) | _ => false) && opdB num x y)
    | _ => false
  | .toStr y => match o.op with
    | .convert t t' x => sliceB P t (byteB P) && (strB P t' && opdB num x y)
    | _ => false
  | .alloc zs => match o.op with
    | .alloc t => infoB P t fun _ z => zerosB z.cells.toList zs
    | _ => false
  | .box y => match o.op with
    | .box _ x => opdB num x y
    | _ => false
  | .build zs qs => match o.op with
    | .build t ps => (match P.underlying t with | some (.struct fs) => (fs.toList.all fun f => (P.info? f.type).isSome) && partsB P num fs ps.toList qs | _ => false) && infoB P t fun _ z => zerosB z.cells.toList zs
    | _ => false
  | .bslice sz zs len qs => match o.op with
    | .buildSlice t n ps => sliceB P t fun e => infoB P e fun i z => decide (i.size = sz) && (decide (z.cells.size = i.size) && (zerosB z.cells.toList zs && (decide (n = len) && (decide (len * i.size ≤ 16777216 ∧ len ≤ 16777216) && rowsB num ps.toList qs))))
    | _ => false
  | .mksl sz zs bytes y => match o.op with
    | .makeSlice t x1 x2 => sliceB P t fun e => infoB P e fun i z => decide (i.size = sz) && (decide (z.cells.size = i.size) && (zerosB z.cells.toList zs && (decide (i.bytes = bytes ∧ 1 ≤ i.bytes) && (sameOpd x1 x2 && opdB num x1 y))))
    | _ => false
  | .load y sz agg .plain => match o.op with
    | .load t x => sizeB P t fun i => decide (i.size = sz) && ((match P.underlying t with | some d => aggB d == agg && (aggB d || i.size == 1) | none => false) && opdB num x y)
    | _ => false
  | .load y sz agg .share => match o.op with
    | .load t x => sizeB P t fun i => decide (i.size = sz) && ((match P.underlying t with | some d => aggB d == agg && (!aggB d && i.size == 1) | none => false) && opdB num x y)
    | _ => false
  | .load _ _ _ .take => false
  | .store y1 y2 sz => match o.op with
    | .store t x1 x2 => sizeB P t fun i => decide (i.size = sz) && (opdB num x1 y1 && opdB num x2 y2)
    | _ => false
  | .faddr y off => match o.op with
    | .fieldAddr t x fi => (match P.underlying t with | some (.struct fs) => (match fs[fi]? with | some f => sizeB P f.type fun i => i.size != 0 && f.offset == off | none => false) | _ => false) && opdB num x y
    | _ => false
  | .iaddr sz y1 y2 => match o.op with
    | .indexAddr t x1 x2 => sliceB P t (fun e => sizeB P e fun i => decide (i.size = sz)) && (opdB num x1 y1 && opdB num x2 y2)
    | _ => false
  | .sidx y1 y2 => match o.op with
    | .index t x1 x2 => strB P t && (opdB num x1 y1 && opdB num x2 y2)
    | _ => false
  | .slice sz y lo' hi' => match o.op with
    | .slice t x lo hi none => sliceB P t (fun e => sizeB P e fun i => decide (i.size = sz)) && (opdB num x y && (optB num lo lo' && optB num hi hi'))
    | _ => false
  | .sslice y lo' hi' => match o.op with
    | .slice t x lo hi none => strB P t && (opdB num x y && (optB num lo lo' && optB num hi hi'))
    | _ => false
  | .len str y => match o.op with
    | .call c => match c.callee, c.args.toList, c.argTypes.toList with
      | .builtin .len, [x], [t] => (if str then strB P t else sliceB P t fun _ => true) && opdB num x y
      | _, _, _ => false
    | _ => false
  | .append sz bytes _ y1 y2 => match o.op with
    | .call c => match c.callee, c.args.toList, c.argTypes.toList with
      | .builtin .append, [x1, x2], [t, t'] => decide (t = t') && (sliceB P t (fun e => infoB P e fun i z => decide (i.size = sz) && (decide (i.bytes = bytes) && decide (z.cells.size = i.size))) && (opdB num x1 y1 && opdB num x2 y2))
      | _, _, _ => false
    | _ => false
  | .mx hi y1 y2 => match o.op with
    | .call c => match c.callee, c.args.toList, c.argTypes.toList with
      | .builtin b, [x1, x2], [_, _] => decide (b = if hi then .max else .min) && (opdB num x1 y1 && opdB num x2 y2)
      | _, _, _ => false
    | _ => false
  | .ext y n => match o.op with
    | .extract x i => i == n && opdB num x y
    | _ => false
  | .mkmap _ => match o.op with
    | .makeMap _ none => true
    | _ => false
  | .lookup kb z y1 y2 => match o.op with
    | .lookup t x1 x2 false => mapB P kb t (fun e => infoB P e fun _ z0 => zeroB z0 z) && (opdB num x1 y1 && opdB num x2 y2)
    | _ => false
  | .mapset kb y1 y2 y3 => match o.op with
    | .mapUpdate t x1 x2 x3 => mapB P kb t (fun _ => true) && (opdB num x1 y1 && (opdB num x2 y2 && opdB num x3 y3))
    | .insert t x1 x2 x3 => mapB P kb t (fun _ => true) && (opdB num x1 y1 && (opdB num x2 y2 && opdB num x3 y3))
    | _ => false
  | .call k _ ys => match o.op with
    | .call c => match c.callee with
      | .value (.func f) => num k == some f && argsB num c.args.toList ys
      | _ => false
    | _ => false
  | .callf y _ ys => match o.op with
    | .call c => match c.callee with
      | .value x => opdB num x y && argsB num c.args.toList ys
      | _ => false
    | _ => false
  | .callin k y ys => match o.op with
    | .call c => match c.callee with
      | .value (.func f) => num k == some f && argsB num c.args.toList (y :: ys)
      | _ => false
    | _ => false
end

/-! ### That it is sound -/
section
variable {cx : Cx} {nt : Nat} {s : St} {g : Gh} {a : Act} {w : World} {o : Oper} {key : Nat} {out : Out} {cl : Callee}

theorem opdB_rel (c : Corr cx nt s g a w) {x : Operand} {y : Opd} (h : opdB cx.num x y = true) : SRel cx.num w cx.R g s.heap s.ep (a.eval x) (y.ev s.slots) := by
  unfold opdB at h
  split at h
  · rename_i t t'
    rw [← eq_of_beq h]
    exact c.slots t
  · exact (zeroB_rel h _ _ _ _ _ _).2
  · rename_i f k
    exact .fn k f (by simpa using h)
  · cases h

theorem optB_rel (c : Corr cx nt s g a w) {x : Option Operand} {y : Option Opd} (h : optB cx.num x y = true) : OptRel a s.slots (SRel cx.num w cx.R g s.heap s.ep) x y := by
  unfold optB at h
  split at h
  · trivial
  · exact opdB_rel c h
  · cases h

theorem argsB_rel (c : Corr cx nt s g a w) : ∀ {xs : List Operand} {ys : List Opd}, argsB cx.num xs ys = true → xs.length = ys.length ∧ ∀ (i : Nat) (x : Operand) (y : Opd), xs[i]? = some x → ys[i]? = some y → SRel cx.num w cx.R g s.heap s.ep (a.eval x) (y.ev s.slots)
  | [], [], _ => ⟨rfl, fun i x y h => by simp at h⟩
  | x :: xs, y :: ys, h => by
    simp only [argsB, Bool.and_eq_true] at h
    obtain ⟨h1, h2⟩ := argsB_rel c h.2
    refine ⟨by simp [h1], fun i x' y' hx hy => ?_⟩
    cases i with
    | zero => simp only [List.getElem?_cons_zero, Option.some.injEq] at hx hy; subst hx; subst hy; exact opdB_rel c h.1
    | succ i => exact h2 i x' y' (by simpa using hx) (by simpa using hy)
  | [], _ :: _, h => by cases h
  | _ :: _, [], h => by cases h

theorem partsB_rel (c : Corr cx nt s g a w) {fs : Array Field} : ∀ {ps : List (Nat × Operand)} {qs : List (Nat × Nat × Opd)}, partsB cx.P cx.num fs ps qs = true →
    PartsRel cx s g a w (fun i => (fs[i]?).map fun f => (f.offset, ((cx.P.info? f.type).map (·.size)).getD 0)) (ps.map fun p => (p.1, a.eval p.2)) qs
  | [], [], _ => .nil
  | (i, x) :: ps, (off, n, y) :: qs, h => by
    simp only [partsB, Bool.and_eq_true] at h
    obtain ⟨h1, h2, h3⟩ := h
    refine .cons i off n _ y _ _ ?_ (opdB_rel c h2) (partsB_rel c h3)
    cases hf : fs[i]? with
    | none => rw [hf] at h1; cases h1
    | some f =>
      rw [hf] at h1
      simp only [Bool.and_eq_true, beq_iff_eq] at h1
      simp only [Option.map_some, ← h1.1, ← h1.2, szT]
  | [], _ :: _, h => by cases h
  | _ :: _, [], h => by cases h

theorem rowsB_rel (c : Corr cx nt s g a w) : ∀ {ps : List (Nat × Operand)} {qs : List (Nat × Opd)}, rowsB cx.num ps qs = true → RowParts cx s g a w (ps.map fun p => (p.1, a.eval p.2)) qs
  | [], [], _ => .nil
  | (i, x) :: ps, (j, y) :: qs, h => by
    simp only [rowsB, Bool.and_eq_true, beq_iff_eq] at h
    obtain ⟨rfl, h2, h3⟩ := h
    exact .cons i _ y _ _ (opdB_rel c h2) (rowsB_rel c h3)
  | [], _ :: _, h => by cases h
  | _ :: _, [], h => by cases h

section
variable {P : Program}
theorem infoB_some {t : TypeId} {f : TypeInfo → Value → Bool} (h : infoB P t f = true) : ∃ i z, P.info? t = some i ∧ i.zero = some z ∧ f i z = true := by
  unfold infoB at h
  split at h
  · rename_i i hi
    split at h
    · rename_i z hz
      exact ⟨i, z, hi, hz, h⟩
    · cases h
  · cases h

theorem sizeB_some {t : TypeId} {f : TypeInfo → Bool} (h : sizeB P t f = true) : ∃ i, P.info? t = some i ∧ f i = true := by
  unfold sizeB at h
  split at h
  · rename_i i hi
    exact ⟨i, hi, h⟩
  · cases h

theorem sliceB_some {t : TypeId} {f : TypeId → Bool} (h : sliceB P t f = true) : ∃ e, P.underlying t = some (.slice e) ∧ f e = true := by
  unfold sliceB at h
  split at h
  · rename_i e he
    exact ⟨e, he, h⟩
  · cases h

theorem strB_some {t : TypeId} (h : strB P t = true) : P.underlying t = some .string := by
  unfold strB at h
  split at h
  · assumption
  · cases h

theorem boolB_some {t : TypeId} (h : boolB P t = true) : P.underlying t = some .bool := by
  unfold boolB at h
  split at h
  · assumption
  · cases h

theorem byteB_some {t : TypeId} (h : byteB P t = true) : P.underlying t = some (.int .u8) := by
  unfold byteB at h
  split at h
  · assumption
  · cases h

theorem keyB_some {kb : Bool} {k : TypeId} (h : (if kb then boolB P k else strB P k) = true) : P.underlying k = some (keyD kb) := by
  cases kb with
  | false => exact strB_some h
  | true => exact boolB_some h

theorem mapB_some {kb : Bool} {t : TypeId} {f : TypeId → Bool} (h : mapB P kb t f = true) : ∃ k e, P.underlying t = some (.map k e) ∧ P.underlying k = some (keyD kb) ∧ f e = true := by
  unfold mapB at h
  split at h
  · rename_i k e he
    simp only [Bool.and_eq_true] at h
    exact ⟨k, e, he, keyB_some h.1, h.2⟩
  · cases h
end

theorem sameOpd_eval {x1 x2 : Operand} (h : sameOpd x1 x2 = true) : a.eval x2 = a.eval x1 := by
  unfold sameOpd at h
  split at h
  · rw [eq_of_beq h]
  · simp only [Bool.and_eq_true, beq_iff_eq] at h
    rw [h.1, h.2]
  · cases h

theorem done_sconv (m : Mem cx s.heap s.ep g w) {x : Operand} {t t' : TypeId} {y : Opd} (ho : o.op = .convert t t' x) (ht : cx.P.underlying t = some .string) (ht' : cx.P.underlying t' = some .string) (h1 : SRel cx.num w cx.R g s.heap s.ep (a.eval x) (y.ev s.slots))
    (h : sem cl (.sconv y) key s.slots s.heap s.ep = some out) : Done cx s g a w o key out := by
  simp only [sem] at h
  generalize y.ev s.slots = c1 at h h1
  generalize e1 : a.eval x = v1 at h1
  cases c1 <;> try (cases h; done)
  cases h1
  refine done_val m ?_ (.str _) h
  simp [execOp, ho, e1, convert, run_underlying ht, run_underlying ht']

theorem call_eq {c : Call} {x : Operand} {t : TypeId} {b : Builtin} (h1 : c.callee = .builtin b) (h2 : c.args.toList = [x]) (h3 : c.argTypes.toList = [t]) : c = { callee := .builtin b, args := #[x], argTypes := #[t] } := by
  cases c
  simp only at h1 h2 h3
  subst h1
  congr
  · exact Array.ext' h2
  · exact Array.ext' h3

theorem call_eq2 {c : Call} {x y : Operand} {t u : TypeId} {b : Builtin} (h1 : c.callee = .builtin b) (h2 : c.args.toList = [x, y]) (h3 : c.argTypes.toList = [t, u]) : c = { callee := .builtin b, args := #[x, y], argTypes := #[t, u] } := by
  cases c
  simp only at h1 h2 h3
  subst h1
  congr
  · exact Array.ext' h2
  · exact Array.ext' h3

/-- What is known of the functions that a call may reach. -/
def Known (cx : Cx) (cl : Callee) : Prop := ∀ (k : Nat) (f : FuncId) (args : List AV) (objs : List AO) (r : AV) (outs : List (Option AO)), cx.num k = some f → cl k args objs = some (r, outs) → Contract cx.P cx.num f args objs r outs

theorem op_goes (c : Corr cx nt s g a w) (hkey : ∀ id, g.used id → ¬ (key ≤ id ∧ id < key + 64)) (hK : Known cx cl) {co : COp} (hc : chkOp cx.P cx.num o co = true) (h : sem cl co key s.slots s.heap s.ep = some out) : Goes cx s g a w o key out := by
  have m := c.mem
  have hk : ¬ g.used key := fun hu => hkey key hu ⟨Nat.le_refl _, by omega⟩
  have R : ∀ {x : Operand} {y : Opd}, opdB cx.num x y = true → SRel cx.num w cx.R g s.heap s.ep (a.eval x) (y.ev s.slots) := fun h => opdB_rel c h
  cases co with
  | mov y =>
    simp only [chkOp] at hc
    split at hc
    · exact (done_mov m (.inl ‹_›) (R hc) h).goes
    · exact (done_mov m (.inr ‹_›) (R hc) h).goes
    · cases hc
  | sconv y =>
    simp only [chkOp] at hc
    split at hc
    · simp only [Bool.and_eq_true] at hc
      exact (done_sconv m ‹_› (strB_some hc.1) (strB_some hc.2.1) (R hc.2.2) h).goes
    · cases hc
  | nilck y =>
    simp only [chkOp] at hc
    split at hc
    · exact (done_nilck m ‹_› (R hc) h).goes
    · cases hc
  | pick y1 y2 y3 =>
    simp only [chkOp] at hc
    split at hc
    · simp only [Bool.and_eq_true] at hc
      exact (done_pick m ‹_› (R hc.1) (R hc.2.1) (R hc.2.2) h).goes
    · cases hc
  | bin op' y1 y2 =>
    simp only [chkOp] at hc
    split at hc
    · simp only [Bool.and_eq_true, decide_eq_true_eq] at hc
      obtain ⟨rfl, h1, h2⟩ := hc
      exact (done_bin m ‹_› (R h1) (R h2) h).goes
    · cases hc
  | beq neg y1 y2 =>
    simp only [chkOp] at hc
    split at hc
    · simp only [Bool.and_eq_true, decide_eq_true_eq] at hc
      exact (done_beq m ‹_› hc.1 (boolB_some hc.2.1) (R hc.2.2.1) (R hc.2.2.2) h).goes
    · cases hc
  | eqs neg ks y1 y2 =>
    simp only [chkOp] at hc
    split at hc
    · simp only [Bool.and_eq_true, decide_eq_true_eq, Bool.not_eq_true'] at hc
      obtain ⟨h1, h2, h3, h4, h5, h6⟩ := hc
      split at h2
      · exact (done_eqs m ‹_› h1 ‹_› h3 h4 (R h5) (R h6) h).goes
      · cases h2
    · cases hc
  | un op' y =>
    simp only [chkOp] at hc
    split at hc
    · simp only [Bool.and_eq_true, decide_eq_true_eq] at hc
      obtain ⟨rfl, h1⟩ := hc
      exact (done_un m ‹_› (R h1) h).goes
    · cases hc
  | conv k y =>
    simp only [chkOp] at hc
    split at hc
    · simp only [Bool.and_eq_true] at hc
      obtain ⟨h1, h2, h3⟩ := hc
      split at h2
      · simp only [decide_eq_true_eq] at h2
        subst h2
        exact (done_conv m ‹_› h1 ‹_› (R h3) h).goes
      · cases h2
    · cases hc
  | toStr y =>
    simp only [chkOp] at hc
    split at hc
    · simp only [Bool.and_eq_true] at hc
      obtain ⟨e, h1, h2⟩ := sliceB_some hc.1
      exact (done_toStr m ‹_› h1 (byteB_some h2) (strB_some hc.2.1) (R hc.2.2) h).goes
    · cases hc
  | alloc zs =>
    simp only [chkOp] at hc
    split at hc
    · obtain ⟨i, z, h1, h2, h3⟩ := infoB_some hc
      exact (done_alloc m hk ‹_› h1 h2 (zerosB_cells h3 _ _ _ _ _ _) h).goes
    · cases hc
  | box y =>
    simp only [chkOp] at hc
    split at hc
    · exact (done_box m hk ‹_› (R hc) h).goes
    · cases hc
  | build zs qs =>
    simp only [chkOp] at hc
    split at hc
    · simp only [Bool.and_eq_true] at hc
      obtain ⟨h0, h1⟩ := hc
      obtain ⟨i, z, h2, h3, h4⟩ := infoB_some h1
      split at h0
      · simp only [Bool.and_eq_true, List.all_eq_true] at h0
        exact (done_build m ‹_› ‹_› h2 h3 (zerosB_cells h4 _ _ _ _ _ _) (fun f hf => Option.isSome_iff_exists.1 (h0.1 f hf)) (partsB_rel c h0.2) h).goes
      · cases h0
    · cases hc
  | bslice sz zs len qs =>
    simp only [chkOp] at hc
    split at hc
    · obtain ⟨e, h1, h2⟩ := sliceB_some hc
      obtain ⟨i, z, h3, h4, h5⟩ := infoB_some h2
      simp only [Bool.and_eq_true, decide_eq_true_eq] at h5
      obtain ⟨rfl, h6, h7, rfl, h8, h9⟩ := h5
      exact (done_bslice m hk ‹_› h1 h3 h4 h6 h7 h8.1 h8.2 (rowsB_rel c h9) h).goes
    · cases hc
  | mksl sz zs bytes y =>
    simp only [chkOp] at hc
    split at hc
    · obtain ⟨e, h1, h2⟩ := sliceB_some hc
      obtain ⟨i, z, h3, h4, h5⟩ := infoB_some h2
      simp only [Bool.and_eq_true, decide_eq_true_eq] at h5
      obtain ⟨rfl, h6, h7, ⟨rfl, h8⟩, h9, h10⟩ := h5
      exact (done_mksl m hk ‹_› (sameOpd_eval h9) h1 h3 h4 h6 h7 h8 (R h10) h).goes
    · cases hc
  | load y sz agg hint =>
    cases hint <;> simp only [chkOp, Bool.false_eq_true] at hc
    · split at hc
      · obtain ⟨i, h1, h2⟩ := sizeB_some hc
        simp only [Bool.and_eq_true, decide_eq_true_eq] at h2
        obtain ⟨rfl, h3, h4⟩ := h2
        split at h3
        · simp only [Bool.and_eq_true, beq_iff_eq, Bool.or_eq_true] at h3
          obtain ⟨rfl, h5⟩ := h3
          exact (done_load m ‹_› ‹_› h1 (fun hf => h5.resolve_left (by simp [hf])) (R h4) h).goes
        · cases h3
      · cases hc
    · split at hc
      · obtain ⟨i, h1, h2⟩ := sizeB_some hc
        simp only [Bool.and_eq_true, decide_eq_true_eq] at h2
        obtain ⟨rfl, h3, h4⟩ := h2
        split at h3
        · simp only [Bool.and_eq_true, beq_iff_eq, Bool.not_eq_true'] at h3
          obtain ⟨rfl, h5, h6⟩ := h3
          exact (done_load_inn m ‹_› ‹_› h1 h5 h6 (R h4) h).goes
        · cases h3
      · cases hc
  | store y1 y2 sz =>
    simp only [chkOp] at hc
    split at hc
    · obtain ⟨i, h1, h2⟩ := sizeB_some hc
      simp only [Bool.and_eq_true, decide_eq_true_eq] at h2
      obtain ⟨rfl, h3, h4⟩ := h2
      exact (done_store m ‹_› h1 (R h3) (R h4) h).goes
    · cases hc
  | faddr y off =>
    simp only [chkOp] at hc
    split at hc
    · simp only [Bool.and_eq_true] at hc
      obtain ⟨h0, h1⟩ := hc
      split at h0
      · split at h0
        · obtain ⟨i, h2, h3⟩ := sizeB_some h0
          simp only [Bool.and_eq_true, bne_iff_ne, ne_eq, beq_iff_eq] at h3
          obtain ⟨h4, rfl⟩ := h3
          exact (done_faddr m ‹_› ‹_› ‹_› h2 h4 (R h1) h).goes
        · cases h0
      · cases h0
    · cases hc
  | iaddr sz y1 y2 =>
    simp only [chkOp] at hc
    split at hc
    · simp only [Bool.and_eq_true] at hc
      obtain ⟨e, h1, h2⟩ := sliceB_some hc.1
      obtain ⟨i, h3, h4⟩ := sizeB_some h2
      simp only [decide_eq_true_eq] at h4
      subst h4
      exact (done_iaddr m ‹_› h1 h3 (R hc.2.1) (R hc.2.2) h).goes
    · cases hc
  | sidx y1 y2 =>
    simp only [chkOp] at hc
    split at hc
    · simp only [Bool.and_eq_true] at hc
      exact (done_sidx m ‹_› (strB_some hc.1) (R hc.2.1) (R hc.2.2) h).goes
    · cases hc
  | slice sz y lo' hi' =>
    simp only [chkOp] at hc
    split at hc
    · simp only [Bool.and_eq_true] at hc
      obtain ⟨e, h1, h2⟩ := sliceB_some hc.1
      obtain ⟨i, h3, h4⟩ := sizeB_some h2
      simp only [decide_eq_true_eq] at h4
      subst h4
      exact (done_slice m ‹_› h1 h3 (R hc.2.1) (optB_rel c hc.2.2.1) (optB_rel c hc.2.2.2) h).goes
    · cases hc
  | sslice y lo' hi' =>
    simp only [chkOp] at hc
    split at hc
    · simp only [Bool.and_eq_true] at hc
      exact (done_sslice m ‹_› (strB_some hc.1) (R hc.2.1) (optB_rel c hc.2.2.1) (optB_rel c hc.2.2.2) h).goes
    · cases hc
  | len str y =>
    simp only [chkOp] at hc
    split at hc
    · rename_i c0 ho
      split at hc
      · rename_i x t h1 h2 h3
        have he := call_eq h1 h2 h3
        rw [he] at ho
        simp only [Bool.and_eq_true] at hc
        cases str with
        | true => simp only [if_true] at hc; exact (done_slen m ho (strB_some hc.1) (R hc.2) h).goes
        | false =>
          simp only [Bool.false_eq_true, if_false] at hc
          obtain ⟨e, h4, _⟩ := sliceB_some hc.1
          exact (done_len m ho h4 (R hc.2) h).goes
      · cases hc
    · cases hc
  | append sz bytes flat y1 y2 =>
    simp only [chkOp] at hc
    split at hc
    · rename_i c0 ho
      split at hc
      · rename_i x1 x2 t t' h1 h2 h3
        have he := call_eq2 h1 h2 h3
        rw [he] at ho
        simp only [Bool.and_eq_true, decide_eq_true_eq] at hc
        obtain ⟨rfl, h4, h5, h6⟩ := hc
        obtain ⟨e, h7, h8⟩ := sliceB_some h4
        obtain ⟨i, z, h9, h10, h11⟩ := infoB_some h8
        simp only [Bool.and_eq_true, decide_eq_true_eq] at h11
        obtain ⟨rfl, rfl, h12⟩ := h11
        exact (done_append m hk ho h7 h9 h10 h12 (R h5) (R h6) h).goes
      · cases hc
    · cases hc
  | mx hi y1 y2 =>
    simp only [chkOp] at hc
    split at hc
    · rename_i c0 ho
      split at hc
      · rename_i b x1 x2 t t' h1 h2 h3
        have he := call_eq2 h1 h2 h3
        rw [he] at ho
        simp only [Bool.and_eq_true, decide_eq_true_eq] at hc
        obtain ⟨rfl, h5, h6⟩ := hc
        exact (done_mx m ho (R h5) (R h6) h).goes
      · cases hc
    · cases hc
  | ext y n =>
    simp only [chkOp] at hc
    split at hc
    · simp only [Bool.and_eq_true, beq_iff_eq] at hc
      obtain ⟨rfl, h1⟩ := hc
      exact (done_ext m ‹_› (R h1) h).goes
    · cases hc
  | mkmap kb =>
    simp only [chkOp] at hc
    split at hc
    · exact (done_mkmap m hk ‹_› h).goes
    · cases hc
  | lookup kb z y1 y2 =>
    simp only [chkOp] at hc
    split at hc
    · simp only [Bool.and_eq_true] at hc
      obtain ⟨k, e, h1, h2, h3⟩ := mapB_some hc.1
      obtain ⟨i, z0, h4, h5, h6⟩ := infoB_some h3
      exact (done_lookup m ‹_› h1 h2 h4 h5 h6 (R hc.2.1) (R hc.2.2) h).goes
    · cases hc
  | mapset kb y1 y2 y3 =>
    simp only [chkOp] at hc
    split at hc
    · simp only [Bool.and_eq_true] at hc
      obtain ⟨k, e, h1, h2, _⟩ := mapB_some hc.1
      exact (done_mapset m (.inl ‹_›) h1 h2 (R hc.2.1) (R hc.2.2.1) (R hc.2.2.2) h).goes
    · simp only [Bool.and_eq_true] at hc
      obtain ⟨k, e, h1, h2, _⟩ := mapB_some hc.1
      exact (done_mapset m (.inr ‹_›) h1 h2 (R hc.2.1) (R hc.2.2.1) (R hc.2.2.2) h).goes
    · cases hc
  | call k modes ys =>
    simp only [chkOp] at hc
    split at hc
    · rename_i c0 ho
      split at hc
      · rename_i f hce
        simp only [Bool.and_eq_true, beq_iff_eq] at hc
        obtain ⟨h1, h2⟩ := argsB_rel c hc.2
        exact goes_call m hkey ho hce rfl (by simpa using h1) (fun i x y hx hy => h2 i x y (by simpa using hx) hy) (fun args objs r outs hcl => hK k f args objs r outs hc.1 hcl) h
      · cases hc
    · cases hc
  | callf y modes ys =>
    simp only [chkOp] at hc
    split at hc
    · rename_i c0 ho
      split at hc
      · rename_i x hce
        simp only [Bool.and_eq_true] at hc
        obtain ⟨h1, h2⟩ := argsB_rel c hc.2
        simp only [sem] at h
        have hr := R hc.1
        generalize y.ev s.slots = c1 at h hr
        cases c1 <;> try (cases h; done)
        rename_i k
        generalize hx : a.eval x = v1 at hr
        cases hr with
        | fn _ f hf => exact goes_call m hkey ho hce hx (by simpa using h1) (fun i x y hx hy => h2 i x y (by simpa using hx) hy) (fun args objs r outs hcl => hK k f args objs r outs hf hcl) h
      · cases hc
    · cases hc
  | callin k y ys =>
    simp only [chkOp] at hc
    split at hc
    · rename_i c0 ho
      split at hc
      · rename_i f hce
        simp only [Bool.and_eq_true, beq_iff_eq] at hc
        obtain ⟨h1, h2⟩ := argsB_rel c hc.2
        exact goes_callin m ho hce rfl (by simpa using h1) (fun i x y hx hy => h2 i x y (by simpa using hx) hy) (fun args objs r outs hcl => hK k f args objs r outs hc.1 hcl) h
      · cases hc
    · cases hc
end
end Go.Proofs.Ytfebkfeobdffjaa
