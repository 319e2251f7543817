/- Each operation of the model does what the abstract machine's does: those that only compute or read. -/
import Derived.Test.YtfebkfeobdffjaaRel
import Derived.Calls
import Derived.Laws.Cells
import Derived.Laws.Slices
namespace Go.Proofs.Ytfebkfeobdffjaa
open Go Go.RowKit
set_option linter.unusedSimpArgs false

/-- The operation goes through, and comes to what the abstract machine says. -/
def Done (cx : Cx) (s : St) (g : Gh) (a : Act) (w : World) (o : Oper) (key : Nat) (out : Out) : Prop :=
  ∃ n v w' g', (execOp a.eval o).run cx.P w = .ok n w' ∧ (n = .value v ∨ n = .skip ∧ v = undef) ∧
    Keeps w cx.R g s.heap s.ep w' g' (wsOn s.heap out.ws) (if out.bump then s.ep + 1 else s.ep) ∧ Mem cx (wsOn s.heap out.ws) (if out.bump then s.ep + 1 else s.ep) g' w' ∧
    SRel cx.num w' cx.R g' (wsOn s.heap out.ws) (if out.bump then s.ep + 1 else s.ep) v out.v ∧ (∀ id, g'.used id → g.used id ∨ (key ≤ id ∧ id < key + 64))

section
variable {cx : Cx} {nt : Nat} {s : St} {g : Gh} {a : Act} {w : World} {o : Oper} {key : Nat} {out : Out} {cl : Callee}

theorem done_val (m : Mem cx s.heap s.ep g w) {v : Value} {x : AV} (hrun : (execOp a.eval o).run cx.P w = .ok (.value v) w) (hr : SRel cx.num w cx.R g s.heap s.ep v x)
    (ho : Out.val x = some out) : Done cx s g a w o key out := by
  obtain rfl := Option.some.inj ho
  exact ⟨_, v, w, g, hrun, .inl rfl, Keeps.refl _ _ _ _ _, m, hr, fun _ h => .inl h⟩

theorem done_mov (m : Mem cx s.heap s.ep g w) {x : Operand} {y : Opd} (ho : o.op = .move x ∨ o.op = .assign x) (hx : SRel cx.num w cx.R g s.heap s.ep (a.eval x) (y.ev s.slots))
    (h : sem cl (.mov y) key s.slots s.heap s.ep = some out) : Done cx s g a w o key out := by
  refine done_val m (v := a.eval x) ?_ hx h
  rcases ho with ho | ho <;> simp [execOp, ho]

theorem done_pick (m : Mem cx s.heap s.ep g w) {x1 x2 x3 : Operand} {y1 y2 y3 : Opd} (ho : o.op = .pick x1 x2 x3) (h1 : SRel cx.num w cx.R g s.heap s.ep (a.eval x1) (y1.ev s.slots))
    (h2 : SRel cx.num w cx.R g s.heap s.ep (a.eval x2) (y2.ev s.slots)) (h3 : SRel cx.num w cx.R g s.heap s.ep (a.eval x3) (y3.ev s.slots))
    (h : sem cl (.pick y1 y2 y3) key s.slots s.heap s.ep = some out) : Done cx s g a w o key out := by
  simp only [sem] at h
  generalize e1 : y1.ev s.slots = c1 at h h1
  cases c1 <;> simp only [reduceCtorEq] at h
  rename_i t
  generalize e : a.eval x1 = v1 at h1
  cases h1
  refine done_val m (v := if t then a.eval x2 else a.eval x3) ?_ ?_ h
  · simp [execOp, ho, e, asBool]
  · cases t
    · exact h3
    · exact h2

theorem run_binInt {P : Program} {w : World} {op : BinOp} {k : IntKind} {t : TypeId} {x y : Int} {r : AV} (h : binInt op k x y = some r) :
    ∃ v, (binOp op t (.int k x) (.int k y)).run P w = .ok v w ∧ ((∃ n, v = .int k n ∧ r = .int k n) ∨ (∃ b, v = .bool b ∧ r = .bool b)) := by
  cases op <;> simp only [binInt, reduceCtorEq, Option.some.injEq] at h
  case quo =>
    split at h
    · cases h
    · obtain rfl := Option.some.inj h
      rename_i hy
      exact ⟨_, by simp [binOp, Op.intDiv, hy], .inl ⟨_, rfl, rfl⟩⟩
  case rem =>
    split at h
    · cases h
    · obtain rfl := Option.some.inj h
      rename_i hy
      exact ⟨_, by simp [binOp, Op.intDiv, hy], .inl ⟨_, rfl, rfl⟩⟩
  all_goals subst h
  case add => exact ⟨_, by simp [binOp, Op.intArith], .inl ⟨_, rfl, rfl⟩⟩
  case sub => exact ⟨_, by simp [binOp, Op.intArith], .inl ⟨_, rfl, rfl⟩⟩
  case mul => exact ⟨_, by simp [binOp, Op.intArith], .inl ⟨_, rfl, rfl⟩⟩
  case xor => exact ⟨_, by simp [binOp, Op.intBits], .inl ⟨_, rfl, rfl⟩⟩
  all_goals exact ⟨_, by simp [binOp, Op.intCmp], .inr ⟨_, rfl, rfl⟩⟩

theorem run_binStr {P : Program} {w : World} {op : BinOp} {t : TypeId} {x y : ByteArray} {r : AV} (h : binStr op x y = some r) :
    ∃ v, (binOp op t (.string x) (.string y)).run P w = .ok v w ∧ ((∃ s, v = .string s ∧ r = .str s) ∨ (∃ b, v = .bool b ∧ r = .bool b)) := by
  cases op <;> simp only [binStr, reduceCtorEq, Option.some.injEq] at h
  case add =>
    split at h
    · obtain rfl := Option.some.inj h
      rename_i hs
      refine ⟨_, ?_, .inl ⟨_, rfl, rfl⟩⟩
      have hn : ¬ (((x.size + y.size : Nat) : Int) > IntKind.i64.max) := by
        have : IntKind.i64.max = 9223372036854775807 := by decide
        rw [this]
        omega
      simp only [binOp, Op.stringOp]
      rw [if_neg hn]
      rfl
    · cases h
  all_goals subst h
  all_goals exact ⟨_, by simp [binOp, Op.stringOp, sEq, sLt], .inr ⟨_, rfl, rfl⟩⟩

theorem run_eqGuard_int {P : Program} {w : World} (op : BinOp) (t : TypeId) (x y : Operand) (k k' : IntKind) (n m : Int) : (eqGuard op t x y (.int k n) (.int k' m)).run P w = .ok () w := by
  cases op <;> rfl
theorem run_eqGuard_str {P : Program} {w : World} (op : BinOp) (t : TypeId) (x y : Operand) (n m : ByteArray) : (eqGuard op t x y (.string n) (.string m)).run P w = .ok () w := by
  cases op <;> rfl
theorem run_eqGuard_bool {P : Program} {w : World} (op : BinOp) (t : TypeId) (x y : Operand) (n m : Bool) : (eqGuard op t x y (.bool n) (.bool m)).run P w = .ok () w := by
  cases op <;> rfl

theorem done_bin (m : Mem cx s.heap s.ep g w) {x1 x2 : Operand} {t t' : TypeId} {op : BinOp} {y1 y2 : Opd} (ho : o.op = .binOp op t x1 x2 t') (h1 : SRel cx.num w cx.R g s.heap s.ep (a.eval x1) (y1.ev s.slots))
    (h2 : SRel cx.num w cx.R g s.heap s.ep (a.eval x2) (y2.ev s.slots)) (h : sem cl (.bin op y1 y2) key s.slots s.heap s.ep = some out) : Done cx s g a w o key out := by
  simp only [sem] at h
  generalize y1.ev s.slots = c1 at h h1
  generalize y2.ev s.slots = c2 at h h2
  generalize e1 : a.eval x1 = v1 at h1
  generalize e2 : a.eval x2 = v2 at h2
  have key1 : ∀ (r : AV) (v : Value), binAV op c1 c2 = some r → (execOp a.eval o).run cx.P w = .ok (.value v) w → SRel cx.num w cx.R g s.heap s.ep v r → Done cx s g a w o key out := by
    intro r v hb hrun hr
    rw [hb] at h
    exact done_val m hrun hr h
  have h0 := h
  cases c1 <;> cases c2 <;> simp only [binAV, Out.opt, reduceCtorEq] at h
  · rename_i k n k' n'
    cases h1
    cases h2
    by_cases hsl : op = .shl
    · subst hsl
      by_cases hneg : n' < 0
      · simp [hneg, Out.opt] at h
      · simp only [hneg, if_false, Out.opt] at h
        refine done_val m ?_ (.int _ _) h
        simp [execOp, ho, e1, e2, run_eqGuard_int, binOp, Op.shift, hneg]
    by_cases hsr : op = .shr
    · subst hsr
      by_cases hneg : n' < 0
      · simp [hneg, Out.opt] at h
      · simp only [hneg, if_false, Out.opt] at h
        refine done_val m ?_ (.int _ _) h
        simp [execOp, ho, e1, e2, run_eqGuard_int, binOp, Op.shift, hneg]
    have hb : binAV op (.int k n) (.int k' n') = if k = k' then binInt op k n n' else none := by
      cases op <;> first | rfl | exact absurd rfl hsl | exact absurd rfl hsr
    by_cases hk : k = k'
    · subst hk
      rw [if_pos rfl] at hb
      cases hbi : binInt op k n n' with
      | none =>
        rw [hb, hbi] at h0
        cases h0
      | some r =>
        obtain ⟨v, hrun, hr⟩ := run_binInt (P := cx.P) (w := w) (t := t) hbi
        refine key1 r v (by rw [hb, hbi]) ?_ ?_
        · simp [execOp, ho, e1, e2, run_eqGuard_int, hrun]
        · rcases hr with ⟨_, rfl, rfl⟩ | ⟨_, rfl, rfl⟩
          · exact .int _ _
          · exact .bool _
    · rw [if_neg hk] at hb
      rw [hb] at h0
      cases h0
  · cases h1
    cases h2
    rename_i x y
    cases hbi : binStr op x y with
    | none =>
      rw [hbi] at h
      cases h
    | some r =>
      obtain ⟨v, hrun, hr⟩ := run_binStr (P := cx.P) (w := w) (t := t) hbi
      refine key1 r v (by simp only [binAV, hbi]) ?_ ?_
      · simp [execOp, ho, e1, e2, run_eqGuard_str, hrun]
      · rcases hr with ⟨_, rfl, rfl⟩ | ⟨_, rfl, rfl⟩
        · exact .str _
        · exact .bool _

theorem run_equal_bool {P : Program} {w : World} {t : TypeId} (ht : P.underlying t = some .bool) (x y : Bool) : (Op.equal t (.bool x) (.bool y)).run P w = .ok (x == y) w := by
  have h : ∀ d : Nat, (Op.equalIn (d + 1) t (.bool x) (.bool y)).run P w = .ok (x == y) w := fun d => by simp [Op.equalIn, run_underlying ht]
  exact h 9999

theorem done_beq (m : Mem cx s.heap s.ep g w) {x1 x2 : Operand} {t t' : TypeId} {op : BinOp} {neg : Bool} {y1 y2 : Opd} (ho : o.op = .binOp op t x1 x2 t') (hop : op = if neg then .neq else .eql)
    (ht : cx.P.underlying t = some .bool) (h1 : SRel cx.num w cx.R g s.heap s.ep (a.eval x1) (y1.ev s.slots)) (h2 : SRel cx.num w cx.R g s.heap s.ep (a.eval x2) (y2.ev s.slots))
    (h : sem cl (.beq neg y1 y2) key s.slots s.heap s.ep = some out) : Done cx s g a w o key out := by
  simp only [sem] at h
  generalize y1.ev s.slots = c1 at h h1
  generalize y2.ev s.slots = c2 at h h2
  generalize e1 : a.eval x1 = v1 at h1
  generalize e2 : a.eval x2 = v2 at h2
  cases c1 <;> cases c2 <;> simp only [reduceCtorEq] at h
  cases h1
  cases h2
  refine done_val m ?_ (.bool _) h
  subst hop
  cases neg <;> simp [execOp, ho, e1, e2, run_eqGuard_bool, binOp, run_equal_bool ht]

theorem done_un (m : Mem cx s.heap s.ep g w) {x : Operand} {t : TypeId} {op : UnOp} {y : Opd} (ho : o.op = .unOp op t x) (h1 : SRel cx.num w cx.R g s.heap s.ep (a.eval x) (y.ev s.slots))
    (h : sem cl (.un op y) key s.slots s.heap s.ep = some out) : Done cx s g a w o key out := by
  simp only [sem] at h
  generalize y.ev s.slots = c1 at h h1
  generalize e1 : a.eval x = v1 at h1
  cases op <;> cases c1 <;> simp only [reduceCtorEq] at h
  · cases h1
    exact done_val m (by simp [execOp, ho, e1, Op.unary, Op.intArith]) (.int _ _) h
  · cases h1
    exact done_val m (by simp [execOp, ho, e1, Op.unary]) (.bool _) h

theorem done_conv (m : Mem cx s.heap s.ep g w) {x : Operand} {t t' : TypeId} {k : IntKind} {y : Opd} (ho : o.op = .convert t t' x) (ht : (cx.P.underlying t).isSome = true) (ht' : cx.P.underlying t' = some (.int k))
    (h1 : SRel cx.num w cx.R g s.heap s.ep (a.eval x) (y.ev s.slots)) (h : sem cl (.conv k y) key s.slots s.heap s.ep = some out) : Done cx s g a w o key out := by
  simp only [sem] at h
  generalize y.ev s.slots = c1 at h h1
  generalize e1 : a.eval x = v1 at h1
  cases c1 <;> simp only [reduceCtorEq] at h
  cases h1
  obtain ⟨d, hd⟩ := Option.isSome_iff_exists.1 ht
  refine done_val m ?_ (.int _ _) h
  simp [execOp, ho, e1, convert, run_underlying hd, run_underlying ht', Conv.intToInt]

theorem done_mx (m : Mem cx s.heap s.ep g w) {x1 x2 : Operand} {t t' : TypeId} {hi : Bool} {y1 y2 : Opd} (ho : o.op = .call { callee := .builtin (if hi then .max else .min), args := #[x1, x2], argTypes := #[t, t'] }) (h1 : SRel cx.num w cx.R g s.heap s.ep (a.eval x1) (y1.ev s.slots))
    (h2 : SRel cx.num w cx.R g s.heap s.ep (a.eval x2) (y2.ev s.slots)) (h : sem cl (.mx hi y1 y2) key s.slots s.heap s.ep = some out) : Done cx s g a w o key out := by
  simp only [sem] at h
  generalize y1.ev s.slots = c1 at h h1
  generalize y2.ev s.slots = c2 at h h2
  generalize e1 : a.eval x1 = v1 at h1
  generalize e2 : a.eval x2 = v2 at h2
  cases c1 <;> cases c2 <;> simp only [reduceCtorEq] at h
  cases h1; cases h2
  cases hi
  · simp only [Bool.false_eq_true, if_false] at h ho
    refine done_val m ?_ (.int _ _) h
    simp [execOp, ho, resolve, invoke, builtin, e1, e2, Builtin.min_, Builtin.min2]
  · simp only [if_true] at h ho
    refine done_val m ?_ (.int _ _) h
    simp [execOp, ho, resolve, invoke, builtin, e1, e2, Builtin.max_, Builtin.max2]

theorem done_nilck (m : Mem cx s.heap s.ep g w) {x : Operand} {y : Opd} (ho : o.op = .nilCheck x) (h1 : SRel cx.num w cx.R g s.heap s.ep (a.eval x) (y.ev s.slots))
    (h : sem cl (.nilck y) key s.slots s.heap s.ep = some out) : Done cx s g a w o key out := by
  simp only [sem] at h
  generalize y.ev s.slots = c1 at h h1
  generalize e1 : a.eval x = v1 at h1
  have fin : ∀ (p : Addr) (r : AV), v1 = .pointer (some p) → SRel cx.num w cx.R g s.heap s.ep v1 r → Out.val r = some out → Done cx s g a w o key out := by
    intro p r hp hr hv
    subst hp
    exact done_val m (by simp [execOp, ho, e1]) hr hv
  cases c1 <;> simp only [reduceCtorEq] at h
  · rename_i id i off
    cases hh : s.heap id with
    | none => rw [hh] at h; cases h
    | some ob =>
      rw [hh] at h
      have h1' := h1
      cases h1 with
      | ptr _ _ _ _ _ _ hv =>
        have hp := hv ob hh
        cases ob with
        | box _ => obtain ⟨b, _, he⟩ := hp; exact fin _ _ he h1' h
        | arr _ _ => obtain ⟨b, _, _, _, he⟩ := hp; exact fin _ _ he h1' h
        | map _ _ => cases h
  · rename_i md row off
    split at h
    · rename_i hok
      have h1' := h1
      cases h1 with
      | bptr _ _ _ _ _ _ hm =>
        obtain ⟨b, o', us, he, _⟩ := hm hok
        exact fin _ _ he h1' h
    · cases h

theorem done_faddr (m : Mem cx s.heap s.ep g w) {x : Operand} {t : TypeId} {fi : Nat} {fs : Array Field} {f : Field} {i0 : TypeInfo} {y : Opd} (ho : o.op = .fieldAddr t x fi) (ht : cx.P.underlying t = some (.struct fs))
    (hf : fs[fi]? = some f) (hi : cx.P.info? f.type = some i0) (hsz : i0.size ≠ 0) (h1 : SRel cx.num w cx.R g s.heap s.ep (a.eval x) (y.ev s.slots))
    (h : sem cl (.faddr y f.offset) key s.slots s.heap s.ep = some out) : Done cx s g a w o key out := by
  simp only [sem] at h
  generalize y.ev s.slots = c1 at h h1
  generalize e1 : a.eval x = v1 at h1
  have fin : ∀ (b off : Nat) (r : AV), v1 = .pointer (some ⟨b, off, none⟩) → SRel cx.num w cx.R g s.heap s.ep (.pointer (some ⟨b, off + f.offset, none⟩)) r → Out.val r = some out → Done cx s g a w o key out := by
    intro b off r hp hr hv
    subst hp
    refine done_val m ?_ hr hv
    have ha : (⟨b, off, none⟩ : Addr).add f.offset = ⟨b, off + f.offset, none⟩ := by
      unfold Addr.add
      split
      · rename_i h0; rw [h0]; rfl
      · rfl
    simp [execOp, ho, e1, Instr.fieldAt, run_underlying ht, hf, Instr.sureAddr, fieldPlace, sizeOf, typeInfo, hi, hsz, ha]
  cases c1 <;> simp only [reduceCtorEq] at h
  · rename_i id i off
    cases hh : s.heap id with
    | none => rw [hh] at h; cases h
    | some ob =>
      rw [hh] at h
      cases h1 with
      | ptr _ _ _ _ _ hu hv =>
        have hp := hv ob hh
        cases ob with
        | box cs =>
          obtain ⟨b, hg, he⟩ := hp
          refine fin b off _ he (.ptr _ _ _ _ rfl hu fun o' ho' => ?_) h
          rw [hh] at ho'
          obtain rfl := Option.some.inj ho'
          exact ⟨b, hg, rfl⟩
        | arr sz xs =>
          obtain ⟨b, n, cp, hg, he⟩ := hp
          refine fin b _ _ he (.ptr _ _ _ _ rfl hu fun o' ho' => ?_) h
          rw [hh] at ho'
          obtain rfl := Option.some.inj ho'
          exact ⟨b, n, cp, hg, by rw [Nat.add_assoc]⟩
        | map _ _ => cases h
  · rename_i md row off
    split at h
    · rename_i hok
      cases h1 with
      | bptr _ _ _ _ _ hlim hm =>
        obtain ⟨b, o', us, he, hb, hc⟩ := hm hok
        refine fin b o' _ he (.bptr _ _ _ _ rfl hlim fun _ => ⟨b, o' + f.offset, fun j => us (f.offset + j), rfl, hb, fun j c hj => ?_⟩) h
        have := hc (f.offset + j) c (by rw [← Nat.add_assoc]; exact hj)
        rw [Nat.add_assoc]
        exact this
    · cases h

theorem add_none (b off n : Nat) : (⟨b, off, none⟩ : Addr).add n = ⟨b, off + n, none⟩ := by
  unfold Addr.add
  split
  · rename_i h0; rw [h0]; rfl
  · rfl

theorem run_sizeOf {P : Program} {w : World} {t : TypeId} {i0 : TypeInfo} (hi : P.info? t = some i0) : (sizeOf t).run P w = .ok i0.size w := by
  simp [sizeOf, typeInfo, hi]

theorem run_indexAt_ok {P : Program} {w : World} {t e : TypeId} {i0 : TypeInfo} (ht : P.underlying t = some (.slice e)) (hi : P.info? e = some i0) (b off len cap : Nat) (k : IntKind) (n : Int) (h0 : 0 ≤ n) (h1 : n.toNat < len) :
    (Instr.indexAt t (.slice (some ⟨b, off, none⟩) len cap) (.int k n)).run P w = .ok (.pointer (some ⟨b, off + n.toNat * i0.size, none⟩)) w := by
  have he : P.elem t = e := by simp [Program.elem, ht]
  rw [run_indexAt_slice w t _ len cap k n (by rw [he]; exact ht), if_pos ⟨h0, by omega⟩, he, run_sizeOf hi]
  simp [add_none]

/-- An array of the call's own, looked at. -/
theorem Cl.open_own {w : World} {I : Nat → Prop} {v : Value} {sz : Nat} {xs : List (List AV)} {S : Nat → Prop} (h : Cl w I v (.sl .own sz xs) S) :
    (v = .slice none 0 0 ∧ xs = []) ∨ ∃ b cap cur e, v = .slice (some ⟨b, 0, none⟩) xs.length cap ∧ w.heap[b]? = some (.cells cur e (0, 0)) ∧ S b ∧ xs.length ≤ cap ∧ cap ≤ maxLen ∧ cap * sz ≤ cur.size ∧
      (∀ row ∈ xs, row.length = sz) ∧ ∀ i j c, cellAt xs i j = some c → ∃ u T, cur[i * sz + j]? = some u ∧ Cl w I u c T ∧ ∀ x, T x → S x := by
  cases h with
  | nil => exact .inl ⟨rfl, rfl⟩
  | own _ _ b cap cur e us fs _ hheap hcap hmax hcur hrow hcell hin hdis hnot hS =>
    exact .inr ⟨b, cap, cur, e, rfl, hheap, (hS b).2 (.inl rfl), hcap, hmax, hcur, hrow, fun i j c hc => ⟨_, _, hcell i j c hc, hin i j c hc, fun x hx => (hS x).2 (.inr ⟨i, j, c, hc, hx⟩)⟩⟩

theorem done_iaddr (m : Mem cx s.heap s.ep g w) {x j : Operand} {t e : TypeId} {i0 : TypeInfo} {y z : Opd} (ho : o.op = .indexAddr t x j) (ht : cx.P.underlying t = some (.slice e)) (hi : cx.P.info? e = some i0)
    (h1 : SRel cx.num w cx.R g s.heap s.ep (a.eval x) (y.ev s.slots)) (h2 : SRel cx.num w cx.R g s.heap s.ep (a.eval j) (z.ev s.slots))
    (h : sem cl (.iaddr i0.size y z) key s.slots s.heap s.ep = some out) : Done cx s g a w o key out := by
  simp only [sem] at h
  generalize y.ev s.slots = c1 at h h1
  generalize z.ev s.slots = c2 at h h2
  generalize e1 : a.eval x = v1 at h1
  generalize e2 : a.eval j = v2 at h2
  cases c2 <;> simp only [reduceCtorEq] at h
  rename_i k n
  cases h2
  split at h
  case isFalse => cases h
  rename_i h0
  have fin : ∀ (b off len cap : Nat) (r : AV), v1 = .slice (some ⟨b, off, none⟩) len cap → n.toNat < len → SRel cx.num w cx.R g s.heap s.ep (.pointer (some ⟨b, off + n.toNat * i0.size, none⟩)) r →
      Out.val r = some out → Done cx s g a w o key out := by
    intro b off len cap r hp hn hr hv
    subst hp
    refine done_val m ?_ hr hv
    have hrun := run_indexAt_ok (w := w) ht hi b off len cap k n h0 hn
    simp [execOp, ho, e1, e2, hrun]
  cases c1 <;> simp only [reduceCtorEq] at h
  · rename_i md sz' xs
    split at h
    case isFalse => cases h
    rename_i hok
    obtain ⟨hok, rfl⟩ := hok
    cases hx : xs[n.toNat]? with
    | none => rw [hx] at h; cases h
    | some row =>
      rw [hx] at h
      have hlt := (List.getElem?_eq_some_iff.1 hx).1
      cases h1 with
      | nil => simp at hlt
      | sl _ _ _ _ _ hm hlim hown =>
        have hb := hm hok
        cases hb with
        | nil => simp at hlt
        | sl _ _ _ b off cap us hcap hb hrow hcell hin =>
          refine fin b off _ cap _ rfl hlt (.bptr _ _ _ _ rfl hlim fun _ => ⟨b, off + n.toNat * i0.size, fun j => us n.toNat j, rfl, hb, fun j c hj => ?_⟩) h
          have hc : cellAt xs n.toNat j = some c := cellAt_some.2 ⟨row, hx, by simpa using hj⟩
          exact ⟨hcell _ _ _ hc, hin _ _ _ hc⟩
  · rename_i id
    cases hh : s.heap id with
    | none => rw [hh] at h; cases h
    | some ob =>
      rw [hh] at h
      cases ob <;> simp only [reduceCtorEq] at h
      rename_i sz' xs
      split at h
      case isFalse => cases h
      rename_i hlt
      obtain ⟨hlt, rfl⟩ := hlt
      cases h1 with
      | ref _ _ _ hu hv =>
        have hv' := hv _ hh
        rcases (m.objs id _ hh).1.open_own with ⟨_, h5⟩ | ⟨b, cap, cur, e', h5, _⟩
        · rw [h5] at hlt; simp at hlt
        · refine fin b 0 _ cap _ (hv'.trans h5) hlt (.ptr _ _ _ _ rfl hu fun o' ho' => ?_) h
          rw [hh] at ho'
          obtain rfl := Option.some.inj ho'
          exact ⟨b, _, cap, h5, by simp⟩
  · rename_i id lo len
    cases hh : s.heap id with
    | none => rw [hh] at h; cases h
    | some ob =>
      rw [hh] at h
      cases ob <;> simp only [reduceCtorEq] at h
      rename_i sz' xs
      split at h
      case isFalse => cases h
      rename_i hlt
      obtain ⟨hlt, hle, rfl⟩ := hlt
      cases h1 with
      | view _ _ _ _ _ hu hv =>
        obtain ⟨a', cap, h5, _, h6⟩ := hv _ _ hh
        obtain ⟨b, n', c', h7, h8⟩ := h6 (by omega)
        rw [h8] at h5
        refine fin b _ _ cap _ h5 hlt (.ptr _ _ _ _ rfl hu fun o' ho' => ?_) h
        rw [hh] at ho'
        obtain rfl := Option.some.inj ho'
        exact ⟨b, n', c', h7, by rw [Nat.add_mul]; rfl⟩

theorem done_sidx (m : Mem cx s.heap s.ep g w) {x j : Operand} {t : TypeId} {y z : Opd} (ho : o.op = .index t x j) (ht : cx.P.underlying t = some .string)
    (h1 : SRel cx.num w cx.R g s.heap s.ep (a.eval x) (y.ev s.slots)) (h2 : SRel cx.num w cx.R g s.heap s.ep (a.eval j) (z.ev s.slots))
    (h : sem cl (.sidx y z) key s.slots s.heap s.ep = some out) : Done cx s g a w o key out := by
  simp only [sem] at h
  generalize y.ev s.slots = c1 at h h1
  generalize z.ev s.slots = c2 at h h2
  generalize e1 : a.eval x = v1 at h1
  generalize e2 : a.eval j = v2 at h2
  cases c1 <;> cases c2 <;> simp only [reduceCtorEq] at h
  rename_i b k n
  cases h1
  cases h2
  split at h
  case isFalse => cases h
  rename_i h0
  cases hb : b.data.toList[n.toNat]? with
  | none => rw [hb] at h; cases h
  | some u =>
    rw [hb] at h
    refine done_val m ?_ (.int _ _) h
    have hb' : b[n.toNat]? = some u := by
      have hlt : n.toNat < b.size := by
        have := (List.getElem?_eq_some_iff.1 hb).1
        simpa using this
      have hget := (List.getElem?_eq_some_iff.1 hb).2
      rw [getElem?_pos b n.toNat hlt]
      simp only [Option.some.injEq]
      rw [← hget]
      rfl
    simp [execOp, ho, e1, e2, Instr.index, asIntOf, run_underlying ht, h0, hb']

theorem done_ext (m : Mem cx s.heap s.ep g w) {x : Operand} {i : Nat} {y : Opd} (ho : o.op = .extract x i) (h1 : SRel cx.num w cx.R g s.heap s.ep (a.eval x) (y.ev s.slots))
    (h : sem cl (.ext y i) key s.slots s.heap s.ep = some out) : Done cx s g a w o key out := by
  simp only [sem] at h
  generalize y.ev s.slots = c1 at h h1
  generalize e1 : a.eval x = v1 at h1
  cases c1 <;> simp only [reduceCtorEq] at h
  rename_i cs
  cases h1 with
  | tup vs _ hl hc =>
    cases hci : cs[i]? with
    | none => rw [hci] at h; cases h
    | some c =>
      rw [hci] at h
      have hlt := (List.getElem?_eq_some_iff.1 hci).1
      have hv : vs[i]? = some vs[i] := Array.getElem?_eq_getElem (by omega)
      refine done_val m ?_ (hc i _ c hv hci) h
      simp [execOp, ho, e1, Instr.extract, hv]

/-- What can be read of a slice. -/
theorem content_rel (m : Mem cx s.heap s.ep g w) {v : Value} {x : AV} {sz : Nat} {xs : List (List AV)} (hr : SRel cx.num w cx.R g s.heap s.ep v x) (h : content s.heap s.ep x = some (sz, xs)) :
    ∃ ad cap, v = .slice ad xs.length cap ∧ xs.length ≤ cap := by
  cases x <;> simp only [content, reduceCtorEq] at h
  · rename_i md sz' ys
    cases hr with
    | nil => simp only [Option.some.injEq, Prod.mk.injEq] at h; obtain ⟨_, rfl⟩ := h; exact ⟨none, 0, rfl, Nat.le_refl _⟩
    | sl _ _ _ _ _ hm hlim hown =>
      have h' : md.ok s.ep = true ∧ ys = xs := by
        cases md <;> cases ys <;> simp_all [Md.ok] <;> (split at h <;> simp_all)
      obtain ⟨hok, rfl⟩ := h'
      have hb := hm hok
      cases hb with
      | nil => exact ⟨_, _, rfl, Nat.zero_le _⟩
      | sl _ _ _ b off cap us hcap => exact ⟨_, _, rfl, hcap⟩
  · rename_i id
    cases hh : s.heap id with
    | none => rw [hh] at h; cases h
    | some ob =>
      rw [hh] at h
      cases ob <;> simp only [reduceCtorEq, Option.some.injEq, Prod.mk.injEq] at h
      obtain ⟨rfl, rfl⟩ := h
      cases hr with
      | ref _ _ _ hu hv =>
        rw [hv _ hh]
        rcases (m.objs id _ hh).1.open_own with ⟨h5, h6⟩ | ⟨b, cap, cur, e', h5, _, _, h6, _⟩
        · rw [h5, h6]; exact ⟨none, 0, rfl, Nat.le_refl _⟩
        · exact ⟨_, cap, h5, h6⟩
  · rename_i id lo len
    cases hh : s.heap id with
    | none => rw [hh] at h; cases h
    | some ob =>
      rw [hh] at h
      cases ob <;> simp only [reduceCtorEq] at h
      split at h
      case isFalse => cases h
      rename_i hle
      simp only [Option.some.injEq, Prod.mk.injEq] at h
      obtain ⟨rfl, rfl⟩ := h
      cases hr with
      | view _ _ _ _ _ hu hv =>
        obtain ⟨a', cap, h5, h6, _⟩ := hv _ _ hh
        have hlen : (List.take len (List.drop lo ‹_›)).length = len := by simp; omega
        rw [hlen]
        exact ⟨a', cap, h5, h6⟩

theorem done_len (m : Mem cx s.heap s.ep g w) {x : Operand} {t e : TypeId} {y : Opd} (ho : o.op = .call { callee := .builtin .len, args := #[x], argTypes := #[t] }) (ht : cx.P.underlying t = some (.slice e))
    (h1 : SRel cx.num w cx.R g s.heap s.ep (a.eval x) (y.ev s.slots)) (h : sem cl (.len false y) key s.slots s.heap s.ep = some out) : Done cx s g a w o key out := by
  simp only [sem] at h
  cases hc : content s.heap s.ep (y.ev s.slots) with
  | none => rw [hc] at h; cases h
  | some p =>
    rw [hc] at h
    obtain ⟨sz, xs⟩ := p
    obtain ⟨ad, cap, hv, _⟩ := content_rel m h1 hc
    refine done_val m ?_ (.int _ _) h
    simp [execOp, ho, resolve, invoke, builtin, hv, Builtin.len_, run_underlying ht, goInt]

theorem done_slen (m : Mem cx s.heap s.ep g w) {x : Operand} {t : TypeId} {y : Opd} (ho : o.op = .call { callee := .builtin .len, args := #[x], argTypes := #[t] }) (ht : cx.P.underlying t = some .string)
    (h1 : SRel cx.num w cx.R g s.heap s.ep (a.eval x) (y.ev s.slots)) (h : sem cl (.len true y) key s.slots s.heap s.ep = some out) : Done cx s g a w o key out := by
  simp only [sem] at h
  generalize y.ev s.slots = c1 at h h1
  generalize e1 : a.eval x = v1 at h1
  cases c1 <;> simp only [reduceCtorEq] at h
  cases h1
  refine done_val m ?_ (.int _ _) h
  simp [execOp, ho, resolve, invoke, builtin, e1, Builtin.len_, run_underlying ht, goInt]

theorem run_slBounds {P : Program} {w : World} {isSlice : Bool} {lo hi : Option Value} {lo' hi' : Option AV} {len cap p q : Nat} (hlc : len ≤ cap) (hlo : ∀ u c, lo = some u → lo' = some c → ∀ k n, c = .int k n → u = .int k n)
    (hhi : ∀ u c, hi = some u → hi' = some c → ∀ k n, c = .int k n → u = .int k n) (h1 : lo.isSome = lo'.isSome) (h2 : hi.isSome = hi'.isSome) (h : slBounds lo' hi' len = some (p, q)) :
    (Instr.sliceBounds isSlice len cap lo hi none).run P w = .ok (p, q, cap) w ∧ p ≤ q ∧ q ≤ len := by
  cases lo <;> cases lo' <;> simp at h1 <;> cases hi <;> cases hi' <;> simp at h2
  · simp only [slBounds, Option.some.injEq, Prod.mk.injEq] at h
    obtain ⟨rfl, rfl⟩ := h
    exact ⟨by simp [Instr.sliceBounds], Nat.zero_le _, Nat.le_refl _⟩
  · rename_i u c
    cases c <;> simp only [slBounds, reduceCtorEq] at h
    rename_i k n
    obtain rfl := hhi u _ rfl rfl k n rfl
    split at h
    case isFalse => cases h
    rename_i hb
    simp only [Option.some.injEq, Prod.mk.injEq] at h
    obtain ⟨rfl, rfl⟩ := h
    refine ⟨?_, Nat.zero_le _, by omega⟩
    have hc : n ≤ (cap : Int) := by omega
    simp [Instr.sliceBounds, Instr.sliceBound, asIntOf, hb.1, hc]
  · rename_i u c
    cases c <;> simp only [slBounds, reduceCtorEq] at h
    rename_i k n
    obtain rfl := hlo u _ rfl rfl k n rfl
    split at h
    case isFalse => cases h
    rename_i hb
    simp only [Option.some.injEq, Prod.mk.injEq] at h
    obtain ⟨rfl, rfl⟩ := h
    refine ⟨?_, by omega, Nat.le_refl _⟩
    simp [Instr.sliceBounds, Instr.sliceBound, asIntOf, hb.1, hb.2]
  · rename_i u c u' c'
    cases c' <;> simp only [slBounds, reduceCtorEq] at h
    rename_i k' n'
    cases c <;> simp only [reduceCtorEq] at h
    rename_i k n
    obtain rfl := hlo u _ rfl rfl k n rfl
    obtain rfl := hhi u' _ rfl rfl k' n' rfl
    split at h
    case isFalse => cases h
    rename_i hb
    simp only [Option.some.injEq, Prod.mk.injEq] at h
    obtain ⟨rfl, rfl⟩ := h
    refine ⟨?_, by omega, by omega⟩
    have hc : n' ≤ (cap : Int) := by omega
    have h0 : 0 ≤ n' := by omega
    have h3 : n ≤ ((n'.toNat : Nat) : Int) := by omega
    simp [Instr.sliceBounds, Instr.sliceBound, asIntOf, hb.1, hc, h0, h3]
    intro hgt
    exfalso
    omega

/-- Optional operands, side by side. -/
def OptRel (a : Act) (g : Nat → AV) (R : Value → AV → Prop) : Option Operand → Option Opd → Prop
  | none, none => True
  | some x, some y => R (a.eval x) (y.ev g)
  | _, _ => False

theorem OptRel.some {R : Value → AV → Prop} {x : Option Operand} {y : Option Opd} {gs : Nat → AV} (h : OptRel a gs R x y) : (x.map a.eval).isSome = (y.map (·.ev gs)).isSome ∧
    ∀ u c, x.map a.eval = some u → y.map (·.ev gs) = some c → R u c := by
  cases x <;> cases y <;> simp_all [OptRel]

theorem SRel.int_of {num : Nat → Option FuncId} {w : World} {R : Nat → Prop} {g : Gh} {h : Nat → Option AO} {ep : Nat} {u : Value} {c : AV} (hr : SRel num w R g h ep u c) : ∀ k n, c = .int k n → u = .int k n := by
  rintro k n rfl
  cases hr
  rfl

theorem done_sslice (m : Mem cx s.heap s.ep g w) {x : Operand} {lo hi : Option Operand} {t : TypeId} {y : Opd} {lo' hi' : Option Opd} (ho : o.op = .slice t x lo hi none) (ht : cx.P.underlying t = some .string)
    (h1 : SRel cx.num w cx.R g s.heap s.ep (a.eval x) (y.ev s.slots)) (h2 : OptRel a s.slots (SRel cx.num w cx.R g s.heap s.ep) lo lo') (h3 : OptRel a s.slots (SRel cx.num w cx.R g s.heap s.ep) hi hi')
    (h : sem cl (.sslice y lo' hi') key s.slots s.heap s.ep = some out) : Done cx s g a w o key out := by
  simp only [sem] at h
  generalize y.ev s.slots = c1 at h h1
  generalize e1 : a.eval x = v1 at h1
  cases c1 <;> simp only [reduceCtorEq] at h
  rename_i b
  cases h1
  cases hb : slBounds (lo'.map (·.ev s.slots)) (hi'.map (·.ev s.slots)) b.size with
  | none => rw [hb] at h; cases h
  | some pq =>
    obtain ⟨p, q⟩ := pq
    rw [hb] at h
    obtain ⟨hl1, hl2⟩ := h2.some
    obtain ⟨hh1, hh2⟩ := h3.some
    obtain ⟨hrun, hpq, hq⟩ := run_slBounds (P := cx.P) (w := w) (isSlice := false) (Nat.le_refl b.size) (fun u c hu hc => (hl2 u c hu hc).int_of) (fun u c hu hc => (hh2 u c hu hc).int_of) hl1 hh1 hb
    refine done_val m ?_ (.str _) h
    simp [execOp, ho, e1, Instr.sliceAt, Instr.slice, run_underlying ht, hrun]

theorem done_slice (m : Mem cx s.heap s.ep g w) {x : Operand} {lo hi : Option Operand} {t e : TypeId} {i0 : TypeInfo} {y : Opd} {lo' hi' : Option Opd} (ho : o.op = .slice t x lo hi none) (ht : cx.P.underlying t = some (.slice e)) (hi0 : cx.P.info? e = some i0)
    (h1 : SRel cx.num w cx.R g s.heap s.ep (a.eval x) (y.ev s.slots)) (h2 : OptRel a s.slots (SRel cx.num w cx.R g s.heap s.ep) lo lo') (h3 : OptRel a s.slots (SRel cx.num w cx.R g s.heap s.ep) hi hi')
    (h : sem cl (.slice i0.size y lo' hi') key s.slots s.heap s.ep = some out) : Done cx s g a w o key out := by
  simp only [sem] at h
  generalize y.ev s.slots = c1 at h h1
  generalize e1 : a.eval x = v1 at h1
  obtain ⟨hl1, hl2⟩ := h2.some
  obtain ⟨hh1, hh2⟩ := h3.some
  -- the run, and where the piece lies
  have fin : ∀ (ad : Option Addr) (len cap p q : Nat) (r : AV), v1 = .slice ad len cap → len ≤ cap → slBounds (lo'.map (·.ev s.slots)) (hi'.map (·.ev s.slots)) len = some (p, q) →
      (p ≤ q → q ≤ len → SRel cx.num w cx.R g s.heap s.ep (.slice (if cap = p then ad else ad.map (·.add (p * i0.size))) (q - p) (cap - p)) r) → Out.val r = some out → Done cx s g a w o key out := by
    intro ad len cap p q r hp hlc hb hr hv
    subst hp
    obtain ⟨hrun, hpq, hq⟩ := run_slBounds (P := cx.P) (w := w) (isSlice := true) hlc (fun u c hu hc => (hl2 u c hu hc).int_of) (fun u c hu hc => (hh2 u c hu hc).int_of) hl1 hh1 hb
    refine done_val m ?_ (hr hpq hq) hv
    simp [execOp, ho, e1, Instr.sliceAt, Instr.slice, run_underlying ht, hrun, run_sizeOf hi0]
  cases c1 <;> try simp only [reduceCtorEq] at h
  · rename_i md sz' xs
    by_cases hn : md = .own ∧ xs = []
    · obtain ⟨rfl, rfl⟩ := hn
      simp only at h
      split at h
      case isFalse => cases h
      rename_i hsz
      subst hsz
      cases hb : slBounds (lo'.map (·.ev s.slots)) (hi'.map (·.ev s.slots)) 0 with
      | none => rw [hb] at h; cases h
      | some pq =>
        obtain ⟨p, q⟩ := pq
        rw [hb] at h
        cases h1 with
        | nil _ =>
          refine fin none 0 0 p q _ rfl (Nat.le_refl _) hb (fun hpq hq => ?_) h
          have hq0 : q = 0 := by omega
          have hp0 : p = 0 := by omega
          subst hq0; subst hp0
          exact .nil _
        | sl _ _ _ _ _ hm hlim hown => exact absurd rfl hown
    have h := (show (if md.ok s.ep ∧ sz' = i0.size then match slBounds (lo'.map (·.ev s.slots)) (hi'.map (·.ev s.slots)) xs.length with
      | some (a, b) => Out.val (.sl md sz' ((xs.drop a).take (b - a)))
      | none => none
      else none) = some out by
        cases md with
        | own => cases xs with
          | nil => exact absurd ⟨rfl, rfl⟩ hn
          | cons _ _ => exact h
        | _ => exact h)
    split at h
    case isFalse => cases h
    rename_i hok
    obtain ⟨hok, rfl⟩ := hok
    cases hb : slBounds (lo'.map (·.ev s.slots)) (hi'.map (·.ev s.slots)) xs.length with
    | none => rw [hb] at h; cases h
    | some pq =>
      obtain ⟨p, q⟩ := pq
      rw [hb] at h
      cases h1 with
      | nil => simp [Md.ok] at hok
      | sl _ _ _ _ _ hm hlim hown =>
        have hbor := hm hok
        have hlen : ∀ p q, q ≤ xs.length → (List.take (q - p) (List.drop p xs)).length = q - p := fun p q hq => by simp; omega
        cases hbor with
        | nil _ _ ad cap =>
          refine fin ad 0 cap p q _ rfl (Nat.zero_le _) hb (fun hpq hq => ?_) h
          have hq0 : q = 0 := by simpa using hq
          have hp0 : p = 0 := by omega
          subst hq0; subst hp0
          exact .sl _ _ _ _ rfl (fun _ => .nil _ _ _ _) hlim hown
        | sl _ _ _ b off cap us hcap hbk hrow hcell hin =>
          refine fin _ _ cap p q _ rfl hcap hb (fun hpq hq => ?_) h
          refine .sl _ _ _ _ rfl (fun _ => ?_) hlim hown
          by_cases hz : q - p = 0
          · have : List.take (q - p) (List.drop p xs) = [] := by rw [hz]; rfl
            rw [this, hz]
            exact .nil _ _ _ _
          · rw [if_neg (by omega)]
            have hl := hlen p q hq
            have hc2 : q - p ≤ cap - p := by omega
            have e0 : (some (⟨b, off, none⟩ : Addr)).map (·.add (p * i0.size)) = some ⟨b, off + p * i0.size, none⟩ := by simp [add_none]
            rw [e0]
            have hat : ∀ i j c, cellAt (List.take (q - p) (List.drop p xs)) i j = some c → cellAt xs (p + i) j = some c := by
              intro i j c hc
              obtain ⟨row, hr1, hr2⟩ := cellAt_some.1 hc
              refine cellAt_some.2 ⟨row, ?_, hr2⟩
              rw [List.getElem?_take] at hr1
              split at hr1
              · rwa [List.getElem?_drop] at hr1
              · cases hr1
            have := Bor.sl (w := w) (R := rdSet cx.R g md) md i0.size (List.take (q - p) (List.drop p xs)) b (off + p * i0.size) (cap - p) (fun i j => us (p + i) j) (by rw [hl]; exact hc2) hbk
              (fun row hr => hrow row (List.mem_of_mem_drop (List.mem_of_mem_take hr)))
              (fun i j c hc => by rw [show off + p * i0.size + i * i0.size + j = off + (p + i) * i0.size + j by rw [Nat.add_mul]; omega]; exact hcell _ _ _ (hat i j c hc)) (fun i j c hc => hin _ _ _ (hat i j c hc))
            rwa [hl] at this
  · rename_i id
    cases hh : s.heap id with
    | none => rw [hh] at h; cases h
    | some ob =>
      rw [hh] at h
      cases ob <;> simp only [reduceCtorEq] at h
      rename_i sz' xs
      split at h
      case isFalse => cases h
      rename_i hsz
      subst hsz
      cases hb : slBounds (lo'.map (·.ev s.slots)) (hi'.map (·.ev s.slots)) xs.length with
      | none => rw [hb] at h; cases h
      | some pq =>
        obtain ⟨p, q⟩ := pq
        rw [hb] at h
        cases h1 with
        | ref _ _ _ hu hv =>
          have hv' := hv _ hh
          rcases (m.objs id _ hh).1.open_own with ⟨h5, h6⟩ | ⟨b, cap, cur, e', h5, _, _, hcap, _⟩
          · subst h6
            refine fin none 0 0 p q _ (hv'.trans h5) (Nat.le_refl _) hb (fun hpq hq => ?_) h
            have hq0 : q = 0 := by simpa using hq
            refine .view _ _ _ _ rfl hu fun _ _ _ => ⟨_, _, rfl, by omega, fun hne => by omega⟩
          · refine fin _ _ cap p q _ (hv'.trans h5) hcap hb (fun hpq hq => ?_) h
            refine .view _ _ _ _ rfl hu fun sz2 xs2 ho2 => ⟨_, _, rfl, by omega, fun hne => ⟨b, _, cap, h5, ?_⟩⟩
            rw [hh] at ho2
            simp only [Option.some.injEq, AO.arr.injEq] at ho2
            rw [if_neg (by omega), ← ho2.1]
            simp [add_none]
  · rename_i id lo0 len0
    cases hh : s.heap id with
    | none => rw [hh] at h; cases h
    | some ob =>
      rw [hh] at h
      cases ob <;> simp only [reduceCtorEq] at h
      rename_i sz' xs
      split at h
      case isFalse => cases h
      rename_i hsz
      obtain ⟨hle, rfl⟩ := hsz
      cases hb : slBounds (lo'.map (·.ev s.slots)) (hi'.map (·.ev s.slots)) len0 with
      | none => rw [hb] at h; cases h
      | some pq =>
        obtain ⟨p, q⟩ := pq
        rw [hb] at h
        cases h1 with
        | view _ _ _ _ _ hu hv =>
          obtain ⟨ad, cap, h5, h6, h7⟩ := hv _ _ hh
          refine fin ad len0 cap p q _ h5 h6 hb (fun hpq hq => ?_) h
          refine .view _ _ _ _ rfl hu fun sz2 xs2 ho2 => ⟨_, _, rfl, by omega, fun hne => ?_⟩
          rw [hh] at ho2
          simp only [Option.some.injEq, AO.arr.injEq] at ho2
          obtain ⟨b, n', c', h8, h9⟩ := h7 (by omega)
          refine ⟨b, n', c', h8, ?_⟩
          rw [if_neg (by omega), h9, ← ho2.1]
          simp [add_none, Nat.add_mul]

/-! ### Reading memory -/
def aggB : TypeDesc → Bool
  | .struct _ => true
  | .array _ _ => true
  | _ => false

theorem run_isAgg {P : Program} {w : World} {t : TypeId} {d : TypeDesc} (ht : P.underlying t = some d) : (isAgg t).run P w = .ok (aggB d) w := by
  simp only [isAgg, Sem.run_bind, run_underlying ht, Result.andThen]
  cases d <;> rfl

theorem run_loadVar {P : Program} {w : World} {t : TypeId} {d : TypeDesc} {i0 : TypeInfo} (ht : P.underlying t = some d) (hi : P.info? t = some i0) (b off : Nat) (us : Nat → Value)
    (hc : ∀ j, j < i0.size → w.cell? ⟨b, off + j, none⟩ = some (us j)) (h1 : aggB d = false → i0.size = 1) :
    (loadVar t ⟨b, off, none⟩).run P w = .ok (if aggB d then .agg ((List.range i0.size).map us).toArray else us 0) w := by
  cases hd : aggB d with
  | true =>
    have hl := run_loadCells (P := P) w ⟨b, off, none⟩ i0.size us (fun j hj => by rw [add_none]; exact hc j hj)
    simp [loadVar, run_isAgg ht, hd, run_sizeOf hi, hl]
  | false =>
    have h0 := hc 0 (by rw [h1 hd]; omega)
    simp only [Nat.add_zero] at h0
    simp [loadVar, run_isAgg ht, hd, h0]

/-- A load, given what each cell holds and reads as. -/
theorem done_load_at (m : Mem cx s.heap s.ep g w) {x : Operand} {t : TypeId} {d : TypeDesc} {i0 : TypeInfo} (ho : o.op = .load t x) (ht : cx.P.underlying t = some d) (hi : cx.P.info? t = some i0) (hsz : aggB d = false → i0.size = 1)
    {b off : Nat} (hx : a.eval x = .pointer (some ⟨b, off, none⟩)) {cs : List AV} {r : AV} (F : AV → AV)
    (hcell : ∀ j c, cs[j]? = some c → ∃ u, w.cell? ⟨b, off + j, none⟩ = some u ∧ u.oneCell' = true ∧ SRel cx.num w cx.R g s.heap s.ep u (F c))
    (hr : r = if aggB d then .agg ((cs.take i0.size).map F) else F (cs.getD 0 .any)) (hlen : i0.size ≤ cs.length) (h : Out.val r = some out) : Done cx s g a w o key out := by
  have hex : ∃ us : Nat → Value, ∀ j c, cs[j]? = some c → w.cell? ⟨b, off + j, none⟩ = some (us j) ∧ (us j).oneCell' = true ∧ SRel cx.num w cx.R g s.heap s.ep (us j) (F c) := by
    have hj : ∀ j, ∃ u, ∀ c, cs[j]? = some c → w.cell? ⟨b, off + j, none⟩ = some u ∧ u.oneCell' = true ∧ SRel cx.num w cx.R g s.heap s.ep u (F c) := by
      intro j
      cases hj : cs[j]? with
      | none => exact ⟨undef, fun c hc => by cases hc⟩
      | some c0 =>
        obtain ⟨u, hu⟩ := hcell j c0 hj
        exact ⟨u, fun c hc => by rw [← Option.some.inj hc]; exact hu⟩
    exact ⟨fun j => (hj j).choose, fun j => (hj j).choose_spec⟩
  obtain ⟨us, hus⟩ := hex
  have hcs : ∀ j, j < i0.size → w.cell? ⟨b, off + j, none⟩ = some (us j) := fun j hj => (hus j _ (List.getElem?_eq_getElem (Nat.lt_of_lt_of_le hj hlen))).1
  have hrun := run_loadVar (w := w) ht hi b off us hcs hsz
  subst hr
  cases hd : aggB d with
  | true =>
    rw [hd] at h hrun
    simp only [if_true] at h hrun
    refine done_val m (v := .agg ((List.range i0.size).map us).toArray) ?_ ?_ h
    · simp [execOp, ho, hx, Instr.loadAt, Instr.sureAddr, hrun]
    · refine .agg _ _ (by simp; omega) ?_ ?_
      · intro j v hv
        simp only [List.getElem?_toArray, List.getElem?_map] at hv
        cases hj : (List.range i0.size)[j]? with
        | none => rw [hj] at hv; cases hv
        | some j' =>
          rw [hj] at hv
          simp only [Option.map_some, Option.some.injEq] at hv
          have hj2 := List.getElem?_eq_some_iff.1 hj
          obtain ⟨hlt, he⟩ := hj2
          simp only [List.length_range] at hlt
          simp only [List.getElem_range] at he
          subst he
          subst hv
          exact (hus j _ (List.getElem?_eq_getElem (Nat.lt_of_lt_of_le hlt hlen))).2.1
      · intro j v c hv hc
        simp only [List.getElem?_toArray, List.getElem?_map] at hv hc
        cases hj : (List.range i0.size)[j]? with
        | none => rw [hj] at hv; cases hv
        | some j' =>
          rw [hj] at hv
          simp only [Option.map_some, Option.some.injEq] at hv
          have hj2 := List.getElem?_eq_some_iff.1 hj
          obtain ⟨hlt, he⟩ := hj2
          simp only [List.length_range] at hlt
          simp only [List.getElem_range] at he
          subst he
          subst hv
          have hcj : cs[j]? = some cs[j] := List.getElem?_eq_getElem (Nat.lt_of_lt_of_le hlt hlen)
          have htk : (List.take i0.size cs)[j]? = some cs[j] := by rw [List.getElem?_take, if_pos hlt, hcj]
          rw [htk] at hc
          simp only [Option.map_some, Option.some.injEq] at hc
          subst hc
          exact (hus j _ hcj).2.2
  | false =>
    rw [hd] at h hrun
    simp only [Bool.false_eq_true, if_false] at h hrun
    have h0 : 0 < cs.length := by have := hsz hd; omega
    have hc0 : cs[0]? = some cs[0] := List.getElem?_eq_getElem h0
    refine done_val m (v := us 0) ?_ ?_ h
    · simp [execOp, ho, hx, Instr.loadAt, Instr.sureAddr, hrun]
    · have := (hus 0 _ hc0).2.2
      have he : cs.getD 0 .any = cs[0] := by simp [List.getD, hc0]
      rw [he]
      exact this

theorem loadFrom_some {cs : List AV} {off sz : Nat} {agg : Bool} {r : AV} (hsz : agg = false → sz = 1) (h : loadFrom cs off sz agg = some r) :
    off + sz ≤ cs.length ∧ r = if agg then .agg ((cs.drop off).take sz) else (cs.drop off).getD 0 .any := by
  cases agg with
  | true =>
    simp only [loadFrom, if_true] at h
    split at h
    · simp only [Option.some.injEq] at h
      exact ⟨‹_›, h.symm⟩
    · cases h
  | false =>
    simp only [loadFrom, Bool.false_eq_true, if_false] at h
    have := (List.getElem?_eq_some_iff.1 h).1
    rw [hsz rfl]
    refine ⟨by omega, ?_⟩
    simp [List.getD, h]

theorem SRel.of_cl {num : Nat → Option FuncId} {w : World} {R : Nat → Prop} {g : Gh} {h : Nat → Option AO} {ep : Nat} {v : Value} {c : AV} {S : Nat → Prop} (hc : Cl w g.I v c S) (hS : ∀ x, S x → g.N x) (hI : ∀ x, g.I x → g.N x) :
    SRel num w R g h ep v (c.lendO ep) := by
  have hb := hc.bor hS hI
  have h1 := hc.one
  cases hc with
  | any => exact .any _
  | bool => exact .bool _
  | int => exact .int _ _
  | str => exact .str _
  | imm _ sz xs _ hbor _ => exact .sl _ _ _ _ h1 (fun _ => hbor) (fun e he => by cases he) (by simp)
  | nil sz _ _ => exact .sl _ _ _ _ h1 (fun _ => hb.md) (fun e he => by cases he; exact Nat.le_refl _) (by simp)
  | own sz xs => exact .sl _ _ _ _ h1 (fun _ => hb.md) (fun e he => by cases he; exact Nat.le_refl _) (by simp)

theorem rows_len {xs : List (List AV)} {sz : Nat} (hrow : ∀ row ∈ xs, row.length = sz) {i : Nat} {row : List AV} (h : xs[i]? = some row) : row.length = sz :=
  hrow row (List.mem_of_getElem? h)

theorem SRel.of_bor {num : Nat → Option FuncId} {w : World} {R : Nat → Prop} {g : Gh} {h : Nat → Option AO} {ep : Nat} {v : Value} {c : AV} {m : Md} (hb : Bor w (rdSet R g m) v c) (hlim : ∀ e, m = .snap e → e ≤ ep) (hown : m ≠ .own) :
    SRel num w R g h ep v (c.lend m) := by
  have h1 := hb.one
  cases hb with
  | any => exact .any _
  | bool => exact .bool _
  | int => exact .int _ _
  | str => exact .str _
  | nil => exact .sl _ _ _ _ h1 (fun _ => .nil _ _ _ _) hlim hown
  | sl m' sz xs b o cap us hcap hb hrow hcell hin => exact .sl _ _ _ _ h1 (fun _ => .sl _ _ _ b o cap us hcap hb hrow hcell hin) hlim hown

theorem Md.not_own {ep : Nat} {m : Md} (h : m.ok ep = true) : m ≠ .own := by rintro rfl; simp [Md.ok] at h

theorem map_id' (cs : List AV) (n : Nat) : (cs.take n).map (fun c => c) = cs.take n := by simp

theorem done_load (m : Mem cx s.heap s.ep g w) {x : Operand} {t : TypeId} {d : TypeDesc} {i0 : TypeInfo} {y : Opd} (ho : o.op = .load t x) (ht : cx.P.underlying t = some d) (hi : cx.P.info? t = some i0) (hsz : aggB d = false → i0.size = 1)
    (h1 : SRel cx.num w cx.R g s.heap s.ep (a.eval x) (y.ev s.slots)) (h : sem cl (.load y i0.size (aggB d) .plain) key s.slots s.heap s.ep = some out) : Done cx s g a w o key out := by
  simp only [sem] at h
  generalize y.ev s.slots = c1 at h h1
  generalize e1 : a.eval x = v1 at h1
  cases c1 <;> simp only [reduceCtorEq] at h
  · rename_i id i off
    cases hh : s.heap id with
    | none => rw [hh] at h; cases h
    | some ob =>
      rw [hh] at h
      cases h1 with
      | ptr _ _ _ _ _ hu hv =>
        have hp := hv ob hh
        cases ob with
        | box cells =>
          simp only at h
          split at h
          case isFalse => cases h
          obtain ⟨b, hg, he⟩ := hp
          obtain ⟨b', cur, e', hg', hheap, hsize, hS, hN, hcs⟩ := m.objs id _ hh
          rw [hg] at hg'
          simp only [Value.pointer.injEq, Option.some.injEq, Addr.mk.injEq, and_true] at hg'
          subst hg'
          cases hl : loadFrom cells off i0.size (aggB d) with
          | none => rw [hl] at h; cases h
          | some r =>
            rw [hl] at h
            obtain ⟨hle, hr⟩ := loadFrom_some hsz hl
            refine done_load_at m ho ht hi hsz (e1.trans he) (cs := cells.drop off) (fun c => c) ?_ (by rw [map_id']; exact hr) (by simp; omega) h
            intro j c hj
            rw [List.getElem?_drop] at hj
            have hlt := (List.getElem?_eq_some_iff.1 hj).1
            have hcur : cur[off + j]? = some (cur[off + j]'(by omega)) := Array.getElem?_eq_getElem (by omega)
            obtain ⟨h2, h3⟩ := hcs _ _ _ hcur hj
            exact ⟨_, by rw [cell_of_heap hheap]; exact hcur, h2, h3⟩
        | arr sz' xs =>
          simp only at h
          obtain ⟨b, n', c', hg, he⟩ := hp
          obtain ⟨hcl, hN⟩ := m.objs id _ hh
          cases hx : xs[i]? with
          | none => rw [hx] at h; cases h
          | some row =>
            rw [hx] at h
            simp only at h
            rcases hcl.open_own with ⟨_, h5⟩ | ⟨b', cap, cur, e', h5, hheap, _, _, _, _, hrow, hcells⟩
            · rw [h5] at hx; simp at hx
            · rw [hg] at h5
              simp only [Value.slice.injEq, Option.some.injEq, Addr.mk.injEq, and_true] at h5
              obtain ⟨rfl, _⟩ := h5
              cases hl : loadFrom row off i0.size (aggB d) with
              | none => rw [hl] at h; cases h
              | some r =>
                rw [hl] at h
                obtain ⟨hle, hr⟩ := loadFrom_some hsz hl
                refine done_load_at m ho ht hi hsz (e1.trans he) (cs := row.drop off) (AV.lendO s.ep) ?_ (r := lendAO s.ep r) ?_ (by simp; omega) h
                · intro j c hj
                  rw [List.getElem?_drop] at hj
                  obtain ⟨u, T, hu', hcl', hT⟩ := hcells i (off + j) c (cellAt_some.2 ⟨row, hx, hj⟩)
                  refine ⟨u, ?_, hcl'.one, SRel.of_cl hcl' (fun x hx => hN x (hT x hx)) m.I_N⟩
                  rw [cell_of_heap hheap, Nat.add_assoc]
                  exact hu'
                · rw [hr]
                  cases hd : aggB d with
                  | true => simp [lendAO]
                  | false =>
                    have h0 : off < row.length := by have := hsz hd; omega
                    have he0 : (List.drop off row).getD 0 .any = row[off] := by simp [List.getD, List.getElem?_eq_getElem h0]
                    simp only [Bool.false_eq_true, if_false, he0]
                    have hcl0 : ∃ u T, Cl w g.I u row[off] T := by
                      obtain ⟨u, T, _, h6, _⟩ := hcells i off row[off] (cellAt_some.2 ⟨row, hx, List.getElem?_eq_getElem h0⟩)
                      exact ⟨u, T, h6⟩
                    obtain ⟨u, T, h6⟩ := hcl0
                    cases hrc : row[off] <;> first | rfl | (rw [hrc] at h6; cases h6)
        | map _ _ => simp only [reduceCtorEq] at h
  · rename_i md row off
    split at h
    case isFalse => cases h
    rename_i hok
    cases hl : loadFrom row off i0.size (aggB d) with
    | none => rw [hl] at h; cases h
    | some r =>
      rw [hl] at h
      obtain ⟨hle, hr⟩ := loadFrom_some hsz hl
      cases h1 with
      | bptr _ _ _ _ _ hlim hm =>
        obtain ⟨b, o', us, he, hb, hc⟩ := hm hok
        refine done_load_at m ho ht hi hsz (e1.trans he) (cs := row.drop off) (AV.lend md) ?_ (r := lendA md r) ?_ (by simp; omega) h
        · intro j c hj
          rw [List.getElem?_drop] at hj
          obtain ⟨h2, h3⟩ := hc j c hj
          exact ⟨_, h2, h3.one, SRel.of_bor h3 hlim (Md.not_own hok)⟩
        · rw [hr]
          cases hd : aggB d with
          | true => simp [lendA]
          | false =>
            have h0 : off < row.length := by have := hsz hd; omega
            have he0 : (List.drop off row).getD 0 .any = row[off] := by simp [List.getD, List.getElem?_eq_getElem h0]
            simp only [Bool.false_eq_true, if_false, he0]
            have h6 := (hc 0 row[off] (List.getElem?_eq_getElem h0)).2
            generalize us 0 = u0 at h6
            cases hrc : row[off] <;> first | rfl | (rw [hrc] at h6; cases h6)
/-- A slice that an array of one's own owns, read with its place. -/
theorem done_load_inn (m : Mem cx s.heap s.ep g w) {x : Operand} {t : TypeId} {d : TypeDesc} {i0 : TypeInfo} {y : Opd} (ho : o.op = .load t x) (ht : cx.P.underlying t = some d) (hi : cx.P.info? t = some i0) (hag : aggB d = false) (hsz : i0.size = 1)
    (h1 : SRel cx.num w cx.R g s.heap s.ep (a.eval x) (y.ev s.slots)) (h : sem cl (.load y i0.size (aggB d) .share) key s.slots s.heap s.ep = some out) : Done cx s g a w o key out := by
  simp only [sem] at h
  generalize y.ev s.slots = c1 at h h1
  generalize e1 : a.eval x = v1 at h1
  have hs' : aggB d = false → i0.size = 1 := fun _ => hsz
  cases c1 <;> simp only [reduceCtorEq] at h
  · rename_i id i off
    cases hh : s.heap id with
    | none => rw [hh] at h; cases h
    | some ob =>
      rw [hh] at h
      cases h1 with
      | ptr _ _ _ _ _ hu hv =>
        have hp := hv ob hh
        cases ob with
        | box cells =>
          simp only at h
          split at h
          case isFalse => cases h
          obtain ⟨b, hg, he⟩ := hp
          obtain ⟨b', cur, e', hg', hheap, hsize, hS, hN, hcs⟩ := m.objs id _ hh
          rw [hg] at hg'
          simp only [Value.pointer.injEq, Option.some.injEq, Addr.mk.injEq, and_true] at hg'
          subst hg'
          cases hl : loadFrom cells off i0.size (aggB d) with
          | none => rw [hl] at h; cases h
          | some r =>
            rw [hl] at h
            obtain ⟨hle, hr⟩ := loadFrom_some hs' hl
            refine done_load_at m ho ht hi hs' (e1.trans he) (cs := cells.drop off) (fun c => c) ?_ (by rw [map_id']; exact hr) (by simp; omega) h
            intro j c hj
            rw [List.getElem?_drop] at hj
            have hlt := (List.getElem?_eq_some_iff.1 hj).1
            have hcur : cur[off + j]? = some (cur[off + j]'(by omega)) := Array.getElem?_eq_getElem (by omega)
            obtain ⟨h2, h3⟩ := hcs _ _ _ hcur hj
            exact ⟨_, by rw [cell_of_heap hheap]; exact hcur, h2, h3⟩
        | arr sz' xs =>
          simp only at h
          obtain ⟨b, n', c', hg, he⟩ := hp
          obtain ⟨hcl, hN⟩ := m.objs id _ hh
          cases hx : xs[i]? with
          | none => rw [hx] at h; cases h
          | some row =>
            rw [hx] at h
            simp only at h
            split at h
            case h_2 => cases h
            rename_i sz2 ys hro
            rcases hcl.open_own with ⟨_, h5⟩ | ⟨b', cap, cur, e', h5, hheap, hSb, _, _, _, hrow, hcells⟩
            · rw [h5] at hx; simp at hx
            · rw [hg] at h5
              simp only [Value.slice.injEq, Option.some.injEq, Addr.mk.injEq, and_true] at h5
              obtain ⟨rfl, _⟩ := h5
              obtain ⟨u, T, hu', hcl', hT⟩ := hcells i off _ (cellAt_some.2 ⟨row, hx, hro⟩)
              have hcell : w.cell? ⟨b, i * sz' + off, none⟩ = some u := by rw [cell_of_heap hheap]; exact hu'
              refine done_load_at m ho ht hi hs' (e1.trans he) (cs := [.any]) (r := .inn s.ep id i off) (fun _ => .inn s.ep id i off) ?_ (by rw [hag]; rfl) (by simp [hsz]) h
              intro j c hj
              cases j with
              | succ j => simp at hj
              | zero =>
                refine ⟨u, hcell, hcl'.one, .inn _ _ _ _ _ hcl'.one hu (Nat.le_refl _) (fun _ sz3 xs3 h3 => ?_)⟩
                rw [hh] at h3
                simp only [Option.some.injEq, AO.arr.injEq] at h3
                obtain ⟨rfl, rfl⟩ := h3
                exact ⟨b, n', c', hg, hN _ hSb, hcell⟩
        | map _ _ => simp only [reduceCtorEq] at h
  · rename_i md row off
    split at h
    case isFalse => cases h
    rename_i hok
    cases hl : loadFrom row off i0.size (aggB d) with
    | none => rw [hl] at h; cases h
    | some r =>
      rw [hl] at h
      exact done_load (cl := cl) m ho ht hi hs' (by rw [e1]; exact h1) (y := .const (.bptr md row off)) (by simp only [sem, Opd.ev, hok, if_true, hl]; exact h)
end
end Go.Proofs.Ytfebkfeobdffjaa
