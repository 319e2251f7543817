/- Running the abstract machine by rewriting: frames, branches as 'if', loops by a rule. -/
import Derived.Test.YtfebkfeobdffjaaLim
import Derived.IntWalk
namespace Go.Proofs.Ytfebkfeobdffjaa
open Go

/-- What is still to be run. -/
inductive Fr where
  | code (c : CCode)
  | blk (id : Nat)
  | back (y : St → Option (AExit × St))

def X (cl : Callee) : List Fr → AExit × St → Option (AExit × St)
  | [], r => some r
  | .code c :: fs, (.normal, s) => match runCode cl c s with
    | some r => X cl fs r
    | none => none
  | .code _ :: fs, (.exit i, s) => X cl fs (.exit i, s)
  | .code _ :: fs, (.ret, s) => X cl fs (.ret, s)
  | .blk id :: fs, (.exit i, s) => if i = id then X cl fs (.normal, s) else X cl fs (.exit i, s)
  | .blk _ :: fs, (.normal, s) => X cl fs (.normal, s)
  | .blk _ :: fs, (.ret, s) => X cl fs (.ret, s)
  | .back y :: _, (.normal, s) => y s
  | .back _ :: fs, (.exit i, s) => X cl fs (.exit i, s)
  | .back _ :: fs, (.ret, s) => X cl fs (.ret, s)

/-- The rest of a region, then the frames. -/
def XR (cl : Callee) (is : List CIns) (key : Nat) (s : St) (keep : List Nat) (nx : Nat) (fs : List Fr) : Option (AExit × St) :=
  match runIns cl is key s with
  | some s' => X cl fs (.normal, s'.forget keep nx)
  | none => none

def XQ (cl : Callee) (is : List CIns) (key : Nat) (s : St) (keep : List Nat) (nx : Nat) (fs : List Fr) : Option (AExit × St) :=
  match runQuiet cl is key s with
  | some s' => X cl fs (.normal, s'.forget keep nx)
  | none => none

/-- An operation's outcome in a region. -/
def XO (cl : Callee) (o : Option Out) (dst : Option Nat) (is : List CIns) (key : Nat) (s : St) (keep : List Nat) (nx : Nat) (fs : List Fr) : Option (AExit × St) :=
  match o with
  | some o => XR cl is key (o.app dst s) keep nx fs
  | none => none

def XOQ (cl : Callee) (o : Option Out) (dst : Option Nat) (is : List CIns) (key : Nat) (s : St) (keep : List Nat) (nx : Nat) (fs : List Fr) : Option (AExit × St) :=
  match o with
  | some ⟨v, [], false⟩ => XQ cl is key ⟨putTo s.slots dst v, s.heap, s.ep, s.next, s.base⟩ keep nx fs
  | _ => none

/-- A guard's value, and what comes behind it. -/
def XG (cl : Callee) (v : AV) (t : Nat) (b : Bool) (op : COp) (dst : Option Nat) (is : List CIns) (key : Nat) (s : St) (keep : List Nat) (nx : Nat) (fs : List Fr) : Option (AExit × St) :=
  match v with
  | .bool c => if c = b then XR cl (⟨dst, op, none⟩ :: is) key ⟨upd s.slots t (.bool b), s.heap, s.ep, s.next, s.base⟩ keep nx fs
    else XR cl is (key + 64) ⟨putTo (upd s.slots t (.bool !b)) dst (.tup []), s.heap, s.ep, s.next, s.base⟩ keep nx fs
  | .tup [] => XR cl is (key + 64) ⟨putTo s.slots dst (.tup []), s.heap, s.ep, s.next, s.base⟩ keep nx fs
  | _ => none

def XGQ (cl : Callee) (v : AV) (t : Nat) (b : Bool) (op : COp) (dst : Option Nat) (is : List CIns) (key : Nat) (s : St) (keep : List Nat) (nx : Nat) (fs : List Fr) : Option (AExit × St) :=
  match v with
  | .bool c => if c = b then XQ cl (⟨dst, op, none⟩ :: is) key ⟨upd s.slots t (.bool b), s.heap, s.ep, s.next, s.base⟩ keep nx fs
    else XQ cl is (key + 64) ⟨putTo (upd s.slots t (.bool !b)) dst (.tup []), s.heap, s.ep, s.next, s.base⟩ keep nx fs
  | .tup [] => XQ cl is (key + 64) ⟨putTo s.slots dst (.tup []), s.heap, s.ep, s.next, s.base⟩ keep nx fs
  | _ => none

/-- The same where the order is drawn. -/
def XD (cl : Callee) (is : List CIns) (key : Nat) (s : St) (acc : List Tr) (deps keep : List Nat) (nx : Nat) (fs : List Fr) : Option (AExit × St) :=
  match runLoud cl is key s with
  | some (s', ts) => if allClear 0 (acc ++ ts) deps then X cl fs (.normal, s'.forget keep nx) else none
  | none => none

def XOD (cl : Callee) (o : Option Out) (dst : Option Nat) (op : COp) (is : List CIns) (key : Nat) (s : St) (acc : List Tr) (deps keep : List Nat) (nx : Nat) (fs : List Fr) : Option (AExit × St) :=
  match o with
  | some o => XD cl is key (o.app dst s) (acc ++ [⟨op.looks s.slots s.heap, o.ws.map (·.1), bsnap o.v || (evL s.slots op.opds).any bsnap, o.bump⟩]) deps keep nx fs
  | none => none

def XGD (cl : Callee) (v : AV) (t : Nat) (b : Bool) (op : COp) (dst : Option Nat) (is : List CIns) (key : Nat) (s : St) (acc : List Tr) (deps keep : List Nat) (nx : Nat) (fs : List Fr) : Option (AExit × St) :=
  match v with
  | .bool c => if c = b then XD cl (⟨dst, op, none⟩ :: is) key ⟨upd s.slots t (.bool b), s.heap, s.ep, s.next, s.base⟩ acc deps keep nx fs
    else XD cl is (key + 64) ⟨putTo (upd s.slots t (.bool !b)) dst (.tup []), s.heap, s.ep, s.next, s.base⟩ (acc ++ [⟨[], [], false, false⟩]) deps keep nx fs
  | .tup [] => XD cl is (key + 64) ⟨putTo s.slots dst (.tup []), s.heap, s.ep, s.next, s.base⟩ (acc ++ [⟨[], [], false, false⟩]) deps keep nx fs
  | _ => none

/-- The condition's slot, once its value is known. -/
def cset (c : Opd) (w : Bool) (s : St) : St :=
  match c with
  | .tmp t => ⟨upd s.slots t (.bool w), s.heap, s.ep, s.next, s.base⟩
  | .const _ => s

/-- A branch. -/
def XC (cl : Callee) (v : AV) (c : Opd) (a b : CCode) (s : St) (fs : List Fr) : Option (AExit × St) :=
  match v with
  | .bool w => if w = true then X cl (.code a :: fs) (.normal, cset c true s) else X cl (.code b :: fs) (.normal, cset c false s)
  | _ => none

def XL (cl : Callee) (r : Option (AExit × St)) (fs : List Fr) : Option (AExit × St) :=
  match r with
  | some r => X cl fs r
  | none => none

section
variable {cl : Callee}

theorem upd_same {α : Type} {f : Nat → α} {t : Nat} {v : α} (h : f t = v) : upd f t v = f := by
  funext j
  unfold upd
  split
  · rename_i hj; rw [hj, h]
  · rfl

theorem X_nil (r : AExit × St) : X cl [] r = some r := by rw [X]
theorem X_ret (c : CCode) (fs : List Fr) (s : St) : X cl (.code c :: fs) (.ret, s) = X cl fs (.ret, s) := by rw [X]
theorem X_retA : ∀ (fs : List Fr) (s : St), X cl fs (.ret, s) = some (.ret, s)
  | [], _ => by rw [X]
  | .code _ :: fs, s => by rw [X]; exact X_retA fs s
  | .blk _ :: fs, s => by rw [X]; exact X_retA fs s
  | .back _ :: fs, s => by rw [X]; exact X_retA fs s
theorem X_exit (c : CCode) (fs : List Fr) (i : Nat) (s : St) : X cl (.code c :: fs) (.exit i, s) = X cl fs (.exit i, s) := by rw [X]
theorem X_blk_ret (i : Nat) (fs : List Fr) (s : St) : X cl (.blk i :: fs) (.ret, s) = X cl fs (.ret, s) := by rw [X]
theorem X_blk_normal (i : Nat) (fs : List Fr) (s : St) : X cl (.blk i :: fs) (.normal, s) = X cl fs (.normal, s) := by rw [X]
theorem X_blk_exit (i j : Nat) (fs : List Fr) (s : St) : X cl (.blk i :: fs) (.exit j, s) = if j = i then X cl fs (.normal, s) else X cl fs (.exit j, s) := by rw [X]
theorem X_back_normal (y : St → Option (AExit × St)) (fs : List Fr) (s : St) : X cl (.back y :: fs) (.normal, s) = y s := by rw [X]
theorem X_back_exit (y : St → Option (AExit × St)) (fs : List Fr) (i : Nat) (s : St) : X cl (.back y :: fs) (.exit i, s) = X cl fs (.exit i, s) := by rw [X]
theorem X_back_ret (y : St → Option (AExit × St)) (fs : List Fr) (s : St) : X cl (.back y :: fs) (.ret, s) = X cl fs (.ret, s) := by rw [X]
theorem X_skip (fs : List Fr) (s : St) : X cl (.code .skip :: fs) (.normal, s) = X cl fs (.normal, s) := by rw [X]; rfl
theorem X_exit' (i : Nat) (fs : List Fr) (s : St) : X cl (.code (.exit i) :: fs) (.normal, s) = X cl fs (.exit i, s) := by rw [X]; rfl
theorem X_ret' (fs : List Fr) (s : St) : X cl (.code .ret :: fs) (.normal, s) = X cl fs (.ret, s) := by rw [X]; rfl
theorem X_seq (a b : CCode) (fs : List Fr) (s : St) : X cl (.code (.seq a b) :: fs) (.normal, s) = X cl (.code a :: .code b :: fs) (.normal, s) := by
  rw [X, X, runCode]
  cases h : runCode cl a s with
  | none => rfl
  | some r =>
    obtain ⟨ex, s'⟩ := r
    cases ex <;> simp only [X]
theorem X_block (i : Nat) (b : CCode) (fs : List Fr) (s : St) : X cl (.code (.block i b) :: fs) (.normal, s) = X cl (.code b :: .blk i :: fs) (.normal, s) := by
  rw [X, X, runCode]
  cases h : runCode cl b s with
  | none => rfl
  | some r =>
    obtain ⟨ex, s'⟩ := r
    cases ex with
    | exit j => by_cases hj : j = i <;> simp [X, hj]
    | _ => simp only [X]
theorem X_cond (c : Opd) (a b : CCode) (fs : List Fr) (s : St) : X cl (.code (.cond c a b) :: fs) (.normal, s) = XC cl (c.ev s.slots) c a b s fs := by
  rw [X, runCode]
  unfold XC
  cases h : c.ev s.slots with
  | bool w =>
    have hs : cset c w s = s := by
      cases c with
      | tmp t => simp only [Opd.ev] at h; simp only [cset, upd_same h]
      | const v => rfl
    cases w
    · simp only [Bool.false_eq_true, if_false]; rw [X, hs]
    · simp only [if_true]; rw [X, hs]
  | _ => rfl
theorem X_loop (keep : List Nat) (b : CCode) (fs : List Fr) (s : St) : X cl (.code (.loop keep b) :: fs) (.normal, s) = XL cl (rounds (runCode cl b) keep big s) fs := by rw [X, runCode]; rfl
theorem X_region (ops : List CIns) (keep : List Nat) (fs : List Fr) (s : St) : X cl (.code (.region ops keep) :: fs) (.normal, s) = XR cl ops s.next s keep (s.next + 64 * ops.length) fs := by
  rw [X, runCode, XR]; cases runIns cl ops s.next s <;> rfl
theorem X_quiet (ops : List CIns) (keep : List Nat) (fs : List Fr) (s : St) : X cl (.code (.quiet ops keep) :: fs) (.normal, s) = XQ cl ops s.next s keep (s.next + 64 * ops.length) fs := by
  rw [X, runCode, XQ]; cases runQuiet cl ops s.next s <;> rfl

theorem X_loud (ops : List CIns) (deps keep : List Nat) (fs : List Fr) (s : St) : X cl (.code (.loud ops deps keep) :: fs) (.normal, s) = XD cl ops s.next s [] deps keep (s.next + 64 * ops.length) fs := by
  rw [X, runCode, XD]
  cases runLoud cl ops s.next s with
  | none => rfl
  | some q =>
    obtain ⟨s', ts⟩ := q
    simp only [List.nil_append]
    by_cases h : allClear 0 ts deps = true <;> simp [h]
theorem XD_nil (key : Nat) (s : St) (acc : List Tr) (deps keep : List Nat) (nx : Nat) (fs : List Fr) : XD cl [] key s acc deps keep nx fs = if allClear 0 acc deps then X cl fs (.normal, s.forget keep nx) else none := by simp only [XD, runLoud, List.append_nil]
theorem XD_step (i : CIns) (is : List CIns) (key : Nat) (s : St) (acc : List Tr) (deps keep : List Nat) (nx : Nat) (fs : List Fr) :
    XD cl (i :: is) key s acc deps keep nx fs = match stepLoud cl i key s with
      | some (s', t) => XD cl is (key + 64) s' (acc ++ [t]) deps keep nx fs
      | none => none := by
  simp only [XD, runLoud]
  cases stepLoud cl i key s with
  | none => rfl
  | some q =>
    obtain ⟨s', t⟩ := q
    simp only
    cases runLoud cl is (key + 64) s' with
    | none => rfl
    | some q => obtain ⟨s'', ts⟩ := q; simp
theorem XD_op (dst : Option Nat) (op : COp) (is : List CIns) (key : Nat) (s : St) (acc : List Tr) (deps keep : List Nat) (nx : Nat) (fs : List Fr) :
    XD cl (⟨dst, op, none⟩ :: is) key s acc deps keep nx fs = XOD cl (sem cl op key s.slots s.heap s.ep) dst op is (key + 64) s acc deps keep nx fs := by
  rw [XD_step]
  simp only [stepLoud, guardA]
  cases h : sem cl op key s.slots s.heap s.ep <;> rfl
theorem XOD_some (o : Out) (dst : Option Nat) (op : COp) (is : List CIns) (key : Nat) (s : St) (acc : List Tr) (deps keep : List Nat) (nx : Nat) (fs : List Fr) :
    XOD cl (some o) dst op is key s acc deps keep nx fs = XD cl is key (o.app dst s) (acc ++ [⟨op.looks s.slots s.heap, o.ws.map (·.1), bsnap o.v || (evL s.slots op.opds).any bsnap, o.bump⟩]) deps keep nx fs := rfl
theorem XD_guard (dst : Option Nat) (op : COp) (t : Nat) (b : Bool) (is : List CIns) (key : Nat) (s : St) (acc : List Tr) (deps keep : List Nat) (nx : Nat) (fs : List Fr) :
    XD cl (⟨dst, op, some (t, b)⟩ :: is) key s acc deps keep nx fs = XGD cl (s.slots t) t b op dst is key s acc deps keep nx fs := by
  rw [XD_step]
  simp only [stepLoud, guardA]
  cases h : s.slots t with
  | bool c =>
    simp only [XGD]
    by_cases hc : c = b
    · subst hc
      simp only [beq_self_eq_true, if_true, upd_same h]
      rw [XD_step]
      simp only [stepLoud, guardA]
    · have : (c == b) = false := by simpa using hc
      rw [if_neg hc, this]
      have hb : c = !b := by cases c <;> cases b <;> simp_all
      rw [hb] at h
      simp only [upd_same h]
  | tup vs =>
    cases vs with
    | nil => rfl
    | cons _ _ => rfl
  | _ => rfl
theorem XGD_bool (c : Bool) (t : Nat) (b : Bool) (op : COp) (dst : Option Nat) (is : List CIns) (key : Nat) (s : St) (acc : List Tr) (deps keep : List Nat) (nx : Nat) (fs : List Fr) :
    XGD cl (.bool c) t b op dst is key s acc deps keep nx fs = if c = b then XD cl (⟨dst, op, none⟩ :: is) key ⟨upd s.slots t (.bool b), s.heap, s.ep, s.next, s.base⟩ acc deps keep nx fs
    else XD cl is (key + 64) ⟨putTo (upd s.slots t (.bool !b)) dst (.tup []), s.heap, s.ep, s.next, s.base⟩ (acc ++ [⟨[], [], false, false⟩]) deps keep nx fs := rfl
theorem XGD_off (t : Nat) (b : Bool) (op : COp) (dst : Option Nat) (is : List CIns) (key : Nat) (s : St) (acc : List Tr) (deps keep : List Nat) (nx : Nat) (fs : List Fr) :
    XGD cl (.tup []) t b op dst is key s acc deps keep nx fs = XD cl is (key + 64) ⟨putTo s.slots dst (.tup []), s.heap, s.ep, s.next, s.base⟩ (acc ++ [⟨[], [], false, false⟩]) deps keep nx fs := rfl

theorem XR_nil (key : Nat) (s : St) (keep : List Nat) (nx : Nat) (fs : List Fr) : XR cl [] key s keep nx fs = X cl fs (.normal, s.forget keep nx) := by rw [XR, runIns]
theorem XQ_nil (key : Nat) (s : St) (keep : List Nat) (nx : Nat) (fs : List Fr) : XQ cl [] key s keep nx fs = X cl fs (.normal, s.forget keep nx) := by rw [XQ, runQuiet]
theorem XR_op (dst : Option Nat) (op : COp) (is : List CIns) (key : Nat) (s : St) (keep : List Nat) (nx : Nat) (fs : List Fr) :
    XR cl (⟨dst, op, none⟩ :: is) key s keep nx fs = XO cl (sem cl op key s.slots s.heap s.ep) dst is (key + 64) s keep nx fs := by
  simp only [XR, runIns, stepIns, guardA]
  cases h : sem cl op key s.slots s.heap s.ep <;> rfl
theorem XQ_op (dst : Option Nat) (op : COp) (is : List CIns) (key : Nat) (s : St) (keep : List Nat) (nx : Nat) (fs : List Fr) :
    XQ cl (⟨dst, op, none⟩ :: is) key s keep nx fs = XOQ cl (sem cl op key s.slots s.heap s.ep) dst is (key + 64) s keep nx fs := by
  simp only [XQ, runQuiet, stepQuiet, guardA]
  rcases h : sem cl op key s.slots s.heap s.ep with _ | ⟨v, ws, bu⟩
  · rfl
  · cases ws <;> cases bu <;> rfl
theorem XO_some (o : Out) (dst : Option Nat) (is : List CIns) (key : Nat) (s : St) (keep : List Nat) (nx : Nat) (fs : List Fr) : XO cl (some o) dst is key s keep nx fs = XR cl is key (o.app dst s) keep nx fs := by rw [XO]
theorem XOQ_some (v : AV) (dst : Option Nat) (is : List CIns) (key : Nat) (s : St) (keep : List Nat) (nx : Nat) (fs : List Fr) :
    XOQ cl (some ⟨v, [], false⟩) dst is key s keep nx fs = XQ cl is key ⟨putTo s.slots dst v, s.heap, s.ep, s.next, s.base⟩ keep nx fs := by rw [XOQ]

theorem XR_guard (dst : Option Nat) (op : COp) (t : Nat) (b : Bool) (is : List CIns) (key : Nat) (s : St) (keep : List Nat) (nx : Nat) (fs : List Fr) :
    XR cl (⟨dst, op, some (t, b)⟩ :: is) key s keep nx fs = XG cl (s.slots t) t b op dst is key s keep nx fs := by
  rw [XR, runIns, stepIns, guardA, XG.eq_def]
  cases h : s.slots t with
  | bool c =>
    simp only
    by_cases hc : c = b
    · subst hc
      simp only [beq_self_eq_true, if_true, upd_same h]
      rw [XR, runIns, stepIns, guardA]
    · have : (c == b) = false := by simpa using hc
      rw [if_neg hc, this]
      have hb : c = !b := by cases c <;> cases b <;> simp_all
      rw [hb] at h
      simp only [upd_same h]
      rw [XR]
  | tup vs =>
    cases vs with
    | nil => rfl
    | cons _ _ => rfl
  | _ => rfl
theorem XQ_guard (dst : Option Nat) (op : COp) (t : Nat) (b : Bool) (is : List CIns) (key : Nat) (s : St) (keep : List Nat) (nx : Nat) (fs : List Fr) :
    XQ cl (⟨dst, op, some (t, b)⟩ :: is) key s keep nx fs = XGQ cl (s.slots t) t b op dst is key s keep nx fs := by
  rw [XQ, runQuiet, stepQuiet, guardA, XGQ.eq_def]
  cases h : s.slots t with
  | bool c =>
    simp only
    by_cases hc : c = b
    · subst hc
      simp only [beq_self_eq_true, if_true, upd_same h]
      rw [XQ, runQuiet, stepQuiet, guardA]
    · have : (c == b) = false := by simpa using hc
      rw [if_neg hc, this]
      have hb : c = !b := by cases c <;> cases b <;> simp_all
      rw [hb] at h
      simp only [upd_same h]
      rw [XQ]
  | tup vs =>
    cases vs with
    | nil => rfl
    | cons _ _ => rfl
  | _ => rfl
theorem XG_bool (c : Bool) (t : Nat) (b : Bool) (op : COp) (dst : Option Nat) (is : List CIns) (key : Nat) (s : St) (keep : List Nat) (nx : Nat) (fs : List Fr) :
    XG cl (.bool c) t b op dst is key s keep nx fs = if c = b then XR cl (⟨dst, op, none⟩ :: is) key ⟨upd s.slots t (.bool b), s.heap, s.ep, s.next, s.base⟩ keep nx fs
    else XR cl is (key + 64) ⟨putTo (upd s.slots t (.bool !b)) dst (.tup []), s.heap, s.ep, s.next, s.base⟩ keep nx fs := by rw [XG]
theorem XG_off (t : Nat) (b : Bool) (op : COp) (dst : Option Nat) (is : List CIns) (key : Nat) (s : St) (keep : List Nat) (nx : Nat) (fs : List Fr) :
    XG cl (.tup []) t b op dst is key s keep nx fs = XR cl is (key + 64) ⟨putTo s.slots dst (.tup []), s.heap, s.ep, s.next, s.base⟩ keep nx fs := by rw [XG]
theorem XGQ_bool (c : Bool) (t : Nat) (b : Bool) (op : COp) (dst : Option Nat) (is : List CIns) (key : Nat) (s : St) (keep : List Nat) (nx : Nat) (fs : List Fr) :
    XGQ cl (.bool c) t b op dst is key s keep nx fs = if c = b then XQ cl (⟨dst, op, none⟩ :: is) key ⟨upd s.slots t (.bool b), s.heap, s.ep, s.next, s.base⟩ keep nx fs
    else XQ cl is (key + 64) ⟨putTo (upd s.slots t (.bool !b)) dst (.tup []), s.heap, s.ep, s.next, s.base⟩ keep nx fs := by rw [XGQ]
theorem XGQ_off (t : Nat) (b : Bool) (op : COp) (dst : Option Nat) (is : List CIns) (key : Nat) (s : St) (keep : List Nat) (nx : Nat) (fs : List Fr) :
    XGQ cl (.tup []) t b op dst is key s keep nx fs = XQ cl is (key + 64) ⟨putTo s.slots dst (.tup []), s.heap, s.ep, s.next, s.base⟩ keep nx fs := by rw [XGQ]
theorem XC_tmp (w : Bool) (t : Nat) (a b : CCode) (s : St) (fs : List Fr) : XC cl (.bool w) (.tmp t) a b s fs =
    if w = true then X cl (.code a :: fs) (.normal, ⟨upd s.slots t (.bool true), s.heap, s.ep, s.next, s.base⟩) else X cl (.code b :: fs) (.normal, ⟨upd s.slots t (.bool false), s.heap, s.ep, s.next, s.base⟩) := rfl
theorem XC_const (w : Bool) (v : AV) (a b : CCode) (s : St) (fs : List Fr) : XC cl (.bool w) (.const v) a b s fs =
    if w = true then X cl (.code a :: fs) (.normal, s) else X cl (.code b :: fs) (.normal, s) := rfl
theorem XL_some (r : AExit × St) (fs : List Fr) : XL cl (some r) fs = X cl fs r := rfl

theorem runCode_X (c : CCode) (s : St) : runCode cl c s = X cl [.code c] (.normal, s) := by
  rw [X]
  cases runCode cl c s with
  | none => rfl
  | some r => simp only [X]
end

/-- The end of a function. -/
def fin (rs : List CRes) (n : Nat) : Option (AExit × St) → Option (AV × List (Option AO))
  | some (.ret, s) => endFn ⟨0, rs, .skip⟩ n s
  | some (.normal, s) => endFn ⟨0, rs, .skip⟩ n s
  | _ => none

theorem fin_ret (rs : List CRes) (n : Nat) (s : St) : fin rs n (some (.ret, s)) = endFn ⟨0, rs, .skip⟩ n s := rfl
theorem fin_normal (rs : List CRes) (n : Nat) (s : St) : fin rs n (some (.normal, s)) = endFn ⟨0, rs, .skip⟩ n s := rfl
theorem fin_ite (rs : List CRes) (n : Nat) (p : Prop) [Decidable p] (a b : Option (AExit × St)) : fin rs n (if p then a else b) = if p then fin rs n a else fin rs n b := by split <;> rfl

theorem lim_run {p : CProg} {k : Nat} {c : CFn} {args : List AV} {objs : List AO} {r : AV × List (Option AO)} (hc : p.fn k = some c) (hl : args.length ≤ c.nt)
    (h : fin c.res objs.length (X p.lim [.code c.body] (.normal, ⟨startSlots args 0, startHeap objs 0, 0, objs.length, objs.length⟩)) = some r) : p.lim k args objs = some r := by
  refine lim_fn hc ?_
  rw [← runCode_X] at h
  rw [runFn, if_pos hl]
  generalize runCode p.lim c.body ⟨startSlots args 0, startHeap objs 0, 0, objs.length, objs.length⟩ = q at h
  match q with
  | some (.ret, s) => exact h
  | some (.normal, s) => exact h
  | some (.exit i, s) => cases h
  | none => cases h

/-- A loop's head: the slots that are kept, and memory. -/
def sl : List (Nat × AV) → Nat → AV
  | [] => fun _ => .any
  | (t, v) :: r => upd (sl r) t v

def hp : List AO → Nat → Nat → Option AO
  | [], _ => fun _ => none
  | o :: os, n => upd (hp os (n + 1)) n (some o)

def hd (vs : List (Nat × AV)) (os : List AO) (base : Nat) : St := ⟨sl vs, hp os 0, 0, os.length, base⟩

theorem X_round {cl : Callee} (keep : List Nat) (b : CCode) (n : Nat) (fs : List Fr) (s : St) :
    XL cl (rounds (runCode cl b) keep (n + 1) s) fs = X cl (.code b :: .back (fun s' => XL cl (rounds (runCode cl b) keep n s') fs) :: fs) (.normal, s.norm keep) := by
  rw [rounds, X]
  cases h : runCode cl b (s.norm keep) with
  | none => rfl
  | some r =>
    obtain ⟨ex, s'⟩ := r
    cases ex <;> simp only [X, XL]

/-- A loop, by a measure. -/
theorem loop_by {cl : Callee} {ρ σ : Type} {K : Option (AExit × St) → Option ρ} {keep : List Nat} {b : CCode} {fs : List Fr} (H : σ → St) (Inv : σ → Prop) (μ : σ → Nat) (G : σ → ρ)
    (step : ∀ x Y, Inv x → (∀ y s', Inv y → μ y < μ x → s'.norm keep = H y → K (Y s') = some (G y)) → K (X cl (.code b :: .back Y :: fs) (.normal, H x)) = some (G x))
    (x : σ) {s : St} (hs : s.norm keep = H x) (hi : Inv x) (hm : μ x < big) : K (X cl (.code (.loop keep b) :: fs) (.normal, s)) = some (G x) := by
  have h : ∀ (n : Nat) (x : σ) (s : St), Inv x → μ x < n → s.norm keep = H x → K (XL cl (rounds (runCode cl b) keep n s) fs) = some (G x) := by
    intro n
    induction n with
    | zero => intro x s _ hm; exact absurd hm (Nat.not_lt_zero _)
    | succ n ih =>
      intro x s hi hm hs
      rw [X_round, hs]
      exact step x _ hi (fun y s' h1 h2 h3 => ih y s' h1 (by omega) h3)
  rw [X_loop]
  exact h big x s hi hm hs

/-- A loop over the places of a list. -/
theorem loop_list {cl : Callee} {ρ α σ : Type} {K : Option (AExit × St) → Option ρ} {keep : List Nat} {b : CCode} {fs : List Fr} (xs : List α) (H : Nat → σ → St) (Inv : Nat → σ → Prop) (G : Nat → List α → σ → ρ)
    (stop : ∀ acc Y, Inv xs.length acc → K (X cl (.code b :: .back Y :: fs) (.normal, H xs.length acc)) = some (G xs.length [] acc))
    (step : ∀ i a r acc Y, xs[i]? = some a → i < xs.length → r = xs.drop (i + 1) → Inv i acc → (∀ acc' s', Inv (i + 1) acc' → s'.norm keep = H (i + 1) acc' → K (Y s') = some (G (i + 1) r acc')) → K (X cl (.code b :: .back Y :: fs) (.normal, H i acc)) = some (G i (a :: r) acc))
    (acc : σ) {s : St} (hs : s.norm keep = H 0 acc) (hi : Inv 0 acc) (hl : xs.length < big) : K (X cl (.code (.loop keep b) :: fs) (.normal, s)) = some (G 0 xs acc) := by
  have h := loop_by (cl := cl) (K := K) (keep := keep) (b := b) (fs := fs) (σ := Nat × σ) (fun x => H x.1 x.2) (fun x => x.1 ≤ xs.length ∧ Inv x.1 x.2) (fun x => xs.length - x.1) (fun x => G x.1 (xs.drop x.1) x.2) (fun ⟨i, acc⟩ Y ⟨h1, h2⟩ hY => by
    simp only at h1 h2 hY ⊢
    rcases Nat.lt_or_ge i xs.length with h3 | h3
    · have h5 : xs.drop i = xs[i]'h3 :: xs.drop (i + 1) := List.drop_eq_getElem_cons h3
      rw [h5]
      exact step i _ _ acc Y (List.getElem?_eq_getElem _) h3 rfl h2 (fun acc' s' h6 h7 => hY (i + 1, acc') s' ⟨h3, h6⟩ (by simp only; omega) h7)
    · obtain rfl : i = xs.length := Nat.le_antisymm h1 h3
      rw [List.drop_length]
      exact stop acc Y h2) (0, acc) hs ⟨Nat.zero_le _, hi⟩ (by simp only [Nat.sub_zero]; exact hl)
  simpa using h

theorem i64w {n : Int} (h1 : -9223372036854775808 ≤ n) (h2 : n ≤ 9223372036854775807) : IntKind.i64.wrap n = n := by rw [IntKind.wrap_i64]; omega

attribute [simp] X_nil X_retA X_exit X_blk_normal X_blk_exit X_back_normal X_back_exit X_skip X_exit' X_ret' X_seq X_block X_cond X_region X_quiet XR_nil XQ_nil XR_op XQ_op XO_some XOQ_some XR_guard XQ_guard XG_bool XG_off XGQ_bool XGQ_off XC_tmp XC_const X_loud XD_nil XD_op XOD_some XD_guard XGD_bool XGD_off XL_some fin_ret fin_normal fin_ite
attribute [simp] keyOf sem Opd.ev Out.val Out.opt Out.app putTo upd wsOn St.forget keepSlots startSlots startHeap AV.parts loadFrom binAV binInt binStr endFn resVals resVal shutT shutV shut1 shutL shutBoxes distinct outsOf outOf lendA lendAO AV.lend AV.lendO semCall passArgs lendV lendL lend1 giveV giveL give1 content openR openV openT open1 openL takeBack evL lay AV.snaps AV.ids AV.id? AV.snaps1 AV.plain Md.ok Md.isSnap kill fillParts fillRows absorb absorb1
attribute [simp] allClear clearOf Tr.clash meets COp.looks COp.opds bsnap inner Nat.testBit
attribute [simp] List.idxOf_cons
attribute [simp] sl hp hd St.norm rnSlots rnHeap rnV rn1 rnO addNew idsOfSlots idsOfBoxes
end Go.Proofs.Ytfebkfeobdffjaa
