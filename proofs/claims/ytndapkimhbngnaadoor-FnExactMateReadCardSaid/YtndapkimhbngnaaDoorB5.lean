/- Functions: a call of one does what the abstract machine's call says. · The whole: what the abstract machine says of a call, the program does. · The arguments of a law, read as the abstract machine's values; a whole call from outside. · A law's call from outside: its arguments read, nothing below turned, its answer. · The laws' arguments, read as the program's data. · The laws' own helpers: sizes only go down. · The laws' own helpers: marks on mates. · The laws' own helpers, on parcels. · Draws: the reader of the code. · Layer 6: the book of grants: what it must be. · Layer 8: worlds: what they must be. · Layer 3: ticks of runs. · Layer 5: copies of mates; falls and rises. · Layer 8: has a world settled? · Layer 3: a tick of a run's life. · Draws: wants and runs. · Runs that end in some result of a kind. · Draws: decimals, lists of wants and of runs. · The library's functions in the abstract machine; sizes of texts. · Layer 7: what is sent, as a text. · What is valid, said of lists as wholes. -/
import Derived.Test.YtndapkimhbngnaaDoorB4
import Derived.Carry
import Derived.ChangeArms
import Derived.DataReads
import Derived.Test.YtndapkimhbngnaaDoorB2
namespace Go.Proofs.YtndapkimhbngnaaDoor
open Go Go.RowKit
set_option linter.unusedSimpArgs false

def chkRes (P : Program) : List ResultVar → List CRes → Bool
  | [], [] => true
  | .tmp t :: rs, .tmp t' :: cs => t == t' && chkRes P rs cs
  | .cell t ty :: rs, .cell t' sz agg :: cs => t == t' && (sizeB P ty (fun i => decide (i.size = sz)) && ((match P.underlying ty with | some d => aggB d == agg && (aggB d || sz == 1) | none => false) && chkRes P rs cs))
  | _, _ => false

def chkFn (P : Program) (num : Nat → Option FuncId) (fn : Func) (c : CFn) : Bool :=
  (fn.name != "runtime.NumGoroutine") && (fn.ntmps == c.nt && (match fn.body with | some b => chkCode P num c.nt c.body b && chkRes P fn.results.toList c.res | none => false))

section
variable {cx : Cx} {h : Nat → Option AO} {ep : Nat} {g : Gh} {w : World}

/-- The blocks of these objects. -/
def Fp (h : Nat → Option AO) (g : Gh) (is : List Nat) (x : Nat) : Prop := ∃ i o, i ∈ is ∧ h i = some o ∧ g.fp i x

theorem Fp.apart (m : Mem cx h ep g w) {is js : List Nat} (hd : ∀ i ∈ is, i ∉ js) {x : Nat} (h1 : Fp h g is x) (h2 : Fp h g js x) : False := by
  obtain ⟨i, o, hi, ho, hf⟩ := h1
  obtain ⟨j, o', hj, ho', hf'⟩ := h2
  exact hd i hi (m.disj i j o o' x ho ho' hf hf' ▸ hj)

theorem Fp.mono {is js : List Nat} (hs : ∀ i ∈ is, i ∈ js) {x : Nat} (h1 : Fp h g is x) : Fp h g js x := by
  obtain ⟨i, o, hi, ho, hf⟩ := h1
  exact ⟨i, o, hs i hi, ho, hf⟩

theorem shut1_rel (m : Mem cx h ep g w) {u : Value} {c d : AV} {is : List Nat} (hr : SRel cx.num w cx.R g h ep u c) (hs : shut1 h c = some (d, is)) :
    ∃ S, Cl w g.I u d S ∧ (∀ x, S x → Fp h g is x) ∧ (∀ x, S x → g.N x) ∧ ∀ i ∈ is, ∃ sz xs, h i = some (.arr sz xs) := by
  have none_ : ∀ {u d}, Cl w g.I u d (fun _ => False) → ∃ S, Cl w g.I u d S ∧ (∀ x, S x → Fp h g [] x) ∧ (∀ x, S x → g.N x) ∧ ∀ i ∈ ([] : List Nat), ∃ sz xs, h i = some (.arr sz xs) := fun hc => ⟨_, hc, fun _ h => h.elim, fun _ h => h.elim, by simp⟩
  cases c <;> simp only [shut1, reduceCtorEq, Option.some.injEq, Prod.mk.injEq] at hs
  · obtain ⟨rfl, rfl⟩ := hs; cases hr; exact none_ (.bool _ _ (fun _ h => h))
  · obtain ⟨rfl, rfl⟩ := hs; cases hr; exact none_ (.int _ _ _ (fun _ h => h))
  · obtain ⟨rfl, rfl⟩ := hs; cases hr; exact none_ (.str _ _ (fun _ h => h))
  · rename_i md sz xs
    cases md with
    | own => cases xs with
      | nil =>
        simp only [Option.some.injEq, Prod.mk.injEq] at hs
        obtain ⟨rfl, rfl⟩ := hs
        cases hr with
        | nil => exact none_ (.nil _ _ (fun _ h => h))
        | sl _ _ _ _ _ _ _ hown => exact absurd rfl hown
      | cons _ _ => simp at hs
    | imm =>
      have hb : d = .sl .imm sz xs ∧ is = [] := by cases xs <;> simp_all
      obtain ⟨rfl, rfl⟩ := hb
      cases hr with
      | sl _ _ _ _ _ hm => exact none_ (.imm _ _ _ _ (hm rfl) (fun _ h => h))
    | bor => cases xs <;> simp at hs
    | snap e => cases xs <;> simp at hs
  · rename_i id
    cases hh : h id with
    | none => rw [hh] at hs; cases hs
    | some ob =>
      rw [hh] at hs
      cases ob <;> simp only [reduceCtorEq, Option.some.injEq, Prod.mk.injEq] at hs
      obtain ⟨rfl, rfl⟩ := hs
      cases hr with
      | ref _ _ _ _ hv =>
        rw [hv _ hh]
        obtain ⟨h1, h2⟩ := m.objs id _ hh
        exact ⟨_, h1, fun x hx => ⟨id, _, by simp, hh, hx⟩, h2, fun i hi => by rw [List.mem_singleton.1 hi]; exact ⟨_, _, hh⟩⟩

theorem shutL_rel (m : Mem cx h ep g w) : ∀ {us : List Value} {cs ds : List AV} {is : List Nat}, us.length = cs.length → (∀ (i : Nat) (u : Value) (c : AV), us[i]? = some u → cs[i]? = some c → SRel cx.num w cx.R g h ep u c) → shutL h cs = some (ds, is) → is.Nodup →
    ∃ fs, ClCells w g.I g.N us ds fs ∧ (∀ i x, i < ds.length → fs i x → Fp h g is x) ∧ ∀ i ∈ is, ∃ sz xs, h i = some (.arr sz xs)
  | [], [], ds, is, _, _, hs, _ => by
    simp only [shutL, Option.some.injEq, Prod.mk.injEq] at hs
    obtain ⟨rfl, rfl⟩ := hs
    exact ⟨fun _ _ => False, ⟨rfl, fun i u c hu => by simp at hu, fun i x hi => by simp at hi, fun i j x hi => by simp at hi⟩, fun i x hi => by simp at hi, by simp⟩
  | [], _ :: _, _, _, hl, _, _, _ => by simp at hl
  | _ :: _, [], _, _, hl, _, _, _ => by simp at hl
  | u :: us, c :: cs, ds, is, hl, hr, hs, hn => by
    simp only [shutL] at hs
    cases h1 : shut1 h c with
    | none => rw [h1] at hs; cases hs
    | some p =>
      obtain ⟨d, i1⟩ := p
      rw [h1] at hs
      simp only at hs
      cases h2 : shutL h cs with
      | none => rw [h2] at hs; cases hs
      | some q =>
        obtain ⟨ds', i2⟩ := q
        rw [h2] at hs
        simp only [Option.some.injEq, Prod.mk.injEq] at hs
        obtain ⟨rfl, rfl⟩ := hs
        obtain ⟨n1, n2, n3⟩ := List.nodup_append.1 hn
        obtain ⟨S, a1, a2, a3, a4⟩ := shut1_rel m (hr 0 u c rfl rfl) h1
        obtain ⟨fs, b1, b2, b3⟩ := shutL_rel m (by simpa using hl) (fun i v e hv he => hr (i + 1) v e (by simpa using hv) (by simpa using he)) h2 n2
        have hdis : ∀ i ∈ i1, i ∉ i2 := fun i h3 h4 => n3 i h3 i h4 rfl
        refine ⟨fun k => match k with | 0 => S | k + 1 => fs k, ⟨by simp [b1.size], fun k v e hv he => ?_, fun k x hk hx => ?_, fun k l x hk hl' hx hx' => ?_⟩, fun k x hk hx => ?_, fun i hi => ?_⟩
        · cases k with
          | zero => simp only [List.getElem?_cons_zero, Option.some.injEq] at hv he; subst hv; subst he; exact a1
          | succ k => exact b1.cl k v e (by simpa using hv) (by simpa using he)
        · cases k with
          | zero => exact a3 x hx
          | succ k => exact b1.inN k x (by simpa using hk) hx
        · cases k with
          | zero => cases l with
            | zero => rfl
            | succ l => exact (Fp.apart m hdis (a2 x hx) (b2 l x (by simpa using hl') hx')).elim
          | succ k => cases l with
            | zero => exact (Fp.apart m hdis (a2 x hx') (b2 k x (by simpa using hk) hx)).elim
            | succ l => exact congrArg (· + 1) (b1.dis k l x (by simpa using hk) (by simpa using hl') hx hx')
        · cases k with
          | zero => exact (a2 x hx).mono fun i hi => List.mem_append.2 (.inl hi)
          | succ k => exact (b2 k x (by simpa using hk) hx).mono fun i hi => List.mem_append.2 (.inr hi)
        · rcases List.mem_append.1 hi with h3 | h3
          · exact a4 i h3
          · exact b3 i h3

theorem shutL_length : ∀ {cs ds : List AV} {is : List Nat}, shutL h cs = some (ds, is) → ds.length = cs.length
  | [], ds, is, hs => by
    simp only [shutL, Option.some.injEq, Prod.mk.injEq] at hs
    rw [← hs.1]
  | c :: cs, ds, is, hs => by
    simp only [shutL] at hs
    cases h1 : shut1 h c with
    | none => rw [h1] at hs; cases hs
    | some p =>
      obtain ⟨d, i1⟩ := p
      rw [h1] at hs
      simp only at hs
      cases h2 : shutL h cs with
      | none => rw [h2] at hs; cases hs
      | some q =>
        obtain ⟨ds', i2⟩ := q
        rw [h2] at hs
        simp only [Option.some.injEq, Prod.mk.injEq] at hs
        rw [← hs.1]
        simp [shutL_length h2]

/-- A variable with what its cells hold. -/
theorem box_shut (m : Mem cx h ep g w) {id : Nat} {cells ds : List AV} {is : List Nat} (hh : h id = some (.box cells)) (hs : shutL h cells = some (ds, is)) (hn : is.Nodup) :
    ∃ S, Shut w g.I g.N (g.v id) (.cellp ds) S ∧ (∀ x, S x → Fp h g (id :: is) x) ∧ ∀ i ∈ is, ∃ sz xs, h i = some (.arr sz xs) := by
  obtain ⟨b, cur, e, h1, h2, h3, h4, h5, h6⟩ := m.objs id _ hh
  obtain ⟨fs, b1, b2, b3⟩ := shutL_rel m (us := cur.toList) (by simpa using h3) (fun i u c hu hc => (h6 i u c (by simpa using hu) hc).2) hs hn
  refine ⟨fun x => x = b ∨ ∃ i, i < ds.length ∧ fs i x, by rw [h1]; exact .cellp b cur e ds fs _ h2 b1 h5 (fun _ => Iff.rfl), ?_, b3⟩
  rintro x (rfl | ⟨i, hi, hx⟩)
  · exact ⟨id, _, List.mem_cons_self, hh, (h4 _).2 rfl⟩
  · exact (b2 i x hi hx).mono fun i hi => List.mem_cons_of_mem _ hi

theorem shutV_rel (m : Mem cx h ep g w) {u : Value} {c d : AV} {is : List Nat} (hr : SRel cx.num w cx.R g h ep u c) (hs : shutV h c = some (d, is)) (hn : is.Nodup) :
    ∃ S, Shut w g.I g.N u d S ∧ (∀ x, S x → Fp h g is x) ∧ d.isTup = false := by
  by_cases hv : ∃ cs, c = .agg cs
  · obtain ⟨cs, rfl⟩ := hv
    simp only [shutV] at hs
    cases h2 : shutL h cs with
    | none => rw [h2] at hs; cases hs
    | some q =>
      obtain ⟨ds, i2⟩ := q
      rw [h2] at hs
      simp only [Option.some.injEq, Prod.mk.injEq] at hs
      obtain ⟨rfl, rfl⟩ := hs
      cases hr with
      | agg us _ hl h1 hc =>
        obtain ⟨fs, b1, b2, b3⟩ := shutL_rel m (us := us.toList) (by simpa using hl) (fun i u c hu hcc => hc i u c (by simpa using hu) hcc) h2 hn
        exact ⟨fun x => ∃ i, i < ds.length ∧ fs i x, .agg us ds fs _ b1 (fun _ => Iff.rfl), fun x ⟨i, hi, hx⟩ => b2 i x hi hx, rfl⟩
  · by_cases hp : ∃ id, c = .ptr id 0 0
    · obtain ⟨id, rfl⟩ := hp
      simp only [shutV] at hs
      cases hh : h id with
      | none => rw [hh] at hs; cases hs
      | some ob =>
        rw [hh] at hs
        cases ob <;> simp only [reduceCtorEq] at hs
        rename_i cells
        cases h2 : shutL h cells with
        | none => rw [h2] at hs; cases hs
        | some q =>
          obtain ⟨ds, i2⟩ := q
          rw [h2] at hs
          simp only [Option.some.injEq, Prod.mk.injEq] at hs
          obtain ⟨rfl, rfl⟩ := hs
          obtain ⟨S, h3, h4, _⟩ := box_shut m hh h2 (List.nodup_cons.1 hn).2
          cases hr with
          | ptr _ _ _ _ h1 hu hv' =>
            obtain ⟨b, h5, h6⟩ := hv' _ hh
            rw [h6, ← h5]
            exact ⟨S, h3, h4, rfl⟩
    · have e1 : shutV h c = shut1 h c := by
        cases c <;> first | rfl | exact absurd ⟨_, rfl⟩ hv | skip
        rename_i id i off
        cases i <;> cases off <;> first | rfl | exact absurd ⟨_, rfl⟩ hp
      rw [e1] at hs
      obtain ⟨S, h1, h2, h3, _⟩ := shut1_rel m hr hs
      refine ⟨S, .one _ _ _ h1 h3, h2, ?_⟩
      cases h1 <;> rfl

theorem shutT_rel (m : Mem cx h ep g w) : ∀ {us : List Value} {cs ds : List AV} {is : List Nat}, us.length = cs.length → (∀ (i : Nat) (u : Value) (c : AV), us[i]? = some u → cs[i]? = some c → SRel cx.num w cx.R g h ep u c) → shutT h cs = some (ds, is) → is.Nodup →
    ∃ fs, ShutL w g.I g.N us ds fs ∧ (∀ i x, i < ds.length → fs i x → Fp h g is x) ∧ ∀ d ∈ ds, d.isTup = false
  | [], [], ds, is, _, _, hs, _ => by
    simp only [shutT, Option.some.injEq, Prod.mk.injEq] at hs
    obtain ⟨rfl, rfl⟩ := hs
    exact ⟨fun _ _ => False, ⟨rfl, fun i u c hu => by simp at hu, fun i j x hi => by simp at hi⟩, fun i x hi => by simp at hi, by simp⟩
  | [], _ :: _, _, _, hl, _, _, _ => by simp at hl
  | _ :: _, [], _, _, hl, _, _, _ => by simp at hl
  | u :: us, c :: cs, ds, is, hl, hr, hs, hn => by
    simp only [shutT] at hs
    cases h1 : shutV h c with
    | none => rw [h1] at hs; cases hs
    | some p =>
      obtain ⟨d, i1⟩ := p
      rw [h1] at hs
      simp only at hs
      cases h2 : shutT h cs with
      | none => rw [h2] at hs; cases hs
      | some q =>
        obtain ⟨ds', i2⟩ := q
        rw [h2] at hs
        simp only [Option.some.injEq, Prod.mk.injEq] at hs
        obtain ⟨rfl, rfl⟩ := hs
        obtain ⟨n1, n2, n3⟩ := List.nodup_append.1 hn
        obtain ⟨S, a1, a2, a3⟩ := shutV_rel m (hr 0 u c rfl rfl) h1 n1
        obtain ⟨fs, b1, b2, b3⟩ := shutT_rel m (by simpa using hl) (fun i v e hv he => hr (i + 1) v e (by simpa using hv) (by simpa using he)) h2 n2
        have hdis : ∀ i ∈ i1, i ∉ i2 := fun i h3 h4 => n3 i h3 i h4 rfl
        refine ⟨fun k => match k with | 0 => S | k + 1 => fs k, ⟨by simp [b1.size], fun k v e hv he => ?_, fun k l x hk hl' hx hx' => ?_⟩, fun k x hk hx => ?_, fun e he => ?_⟩
        · cases k with
          | zero => simp only [List.getElem?_cons_zero, Option.some.injEq] at hv he; subst hv; subst he; exact a1
          | succ k => exact b1.sh k v e (by simpa using hv) (by simpa using he)
        · cases k with
          | zero => cases l with
            | zero => rfl
            | succ l => exact (Fp.apart m hdis (a2 x hx) (b2 l x (by simpa using hl') hx')).elim
          | succ k => cases l with
            | zero => exact (Fp.apart m hdis (a2 x hx') (b2 k x (by simpa using hk) hx)).elim
            | succ l => exact congrArg (· + 1) (b1.dis k l x (by simpa using hk) (by simpa using hl') hx hx')
        · cases k with
          | zero => exact (a2 x hx).mono fun i hi => List.mem_append.2 (.inl hi)
          | succ k => exact (b2 k x (by simpa using hk) hx).mono fun i hi => List.mem_append.2 (.inr hi)
        · rcases List.mem_cons.1 he with rfl | he
          · exact a3
          · exact b3 e he

/-! ### What was given, at the end -/
def innerIds (h : Nat → Option AO) (k : Nat) : List Nat :=
  match h k with
  | some (.box cells) => match shutL h cells with
    | some (_, is) => is
    | none => []
  | _ => []

theorem shutBoxes_spec : ∀ {n i : Nat} {js : List Nat}, shutBoxes h i n = some js → js = (List.range' i n).flatMap (innerIds h) ∧ ∀ k cells, i ≤ k → k < i + n → h k = some (.box cells) → ∃ ds, shutL h cells = some (ds, innerIds h k)
  | 0, i, js, hs => by
    simp only [shutBoxes, Option.some.injEq] at hs
    subst hs
    exact ⟨by simp, fun k cells h1 h2 => by omega⟩
  | n + 1, i, js, hs => by
    have other : (∀ cells, h i ≠ some (.box cells)) → shutBoxes h i (n + 1) = shutBoxes h (i + 1) n := fun hn => by
      rw [shutBoxes]
      cases ho : h i with
      | none => rfl
      | some o =>
        cases o with
        | box cells => exact absurd ho (hn _)
        | arr _ _ => rfl
        | map _ _ => rfl
    by_cases hb : ∃ cells, h i = some (.box cells)
    · obtain ⟨cells, ho⟩ := hb
      simp only [shutBoxes, ho] at hs
      cases h1 : shutL h cells with
      | none => rw [h1] at hs; cases hs
      | some p =>
        obtain ⟨ds, is⟩ := p
        rw [h1] at hs
        simp only at hs
        cases h2 : shutBoxes h (i + 1) n with
        | none => rw [h2] at hs; cases hs
        | some js' =>
          rw [h2] at hs
          simp only [Option.some.injEq] at hs
          subst hs
          obtain ⟨h3, h4⟩ := shutBoxes_spec h2
          have hin : innerIds h i = is := by simp [innerIds, ho, h1]
          refine ⟨by rw [List.range'_succ, List.flatMap_cons, hin, h3], fun k c hk1 hk2 hk3 => ?_⟩
          by_cases hki : k = i
          · subst hki
            rw [ho] at hk3
            cases hk3
            exact ⟨ds, by rw [hin]; exact h1⟩
          · exact h4 k c (by omega) (by omega) hk3
    · have hn : ∀ cells, h i ≠ some (.box cells) := fun cells e => hb ⟨cells, e⟩
      rw [other hn] at hs
      obtain ⟨h3, h4⟩ := shutBoxes_spec hs
      have hin : innerIds h i = [] := by
        unfold innerIds
        cases ho : h i with
        | none => rfl
        | some o =>
          cases o with
          | box cells => exact absurd ho (hn _)
          | arr _ _ => rfl
          | map _ _ => rfl
      refine ⟨by rw [List.range'_succ, List.flatMap_cons, hin, h3]; rfl, fun k c hk1 hk2 hk3 => ?_⟩
      by_cases hki : k = i
      · subst hki; exact absurd hk3 (hn _)
      · exact h4 k c (by omega) (by omega) hk3

theorem outsOf_get {gone : List Nat} : ∀ {n i k : Nat}, k < n → (outsOf h gone i n)[k]? = some (outOf h gone (i + k))
  | 0, i, k, hk => by omega
  | n + 1, i, k, hk => by
    cases k with
    | zero => simp only [outsOf, List.getElem?_cons_zero, Nat.add_zero]
    | succ k =>
      have := outsOf_get (gone := gone) (n := n) (i := i + 1) (k := k) (by omega)
      simp only [outsOf, List.getElem?_cons_succ]
      rw [this, show i + 1 + k = i + (k + 1) by omega]

theorem outsOf_length {gone : List Nat} : ∀ (n i : Nat), (outsOf h gone i n).length = n
  | 0, _ => rfl
  | n + 1, i => by simp [outsOf, outsOf_length n (i + 1)]

/-- The whole of what a call leaves. -/
theorem end_post (m : Mem cx h ep g w) {us : List Value} {vs ws : List AV} {is js : List Nat} (hl : us.length = vs.length) (hr : ∀ (i : Nat) (u : Value) (c : AV), us[i]? = some u → vs[i]? = some c → SRel cx.num w cx.R g h ep u c)
    (hs : shutT h vs = some (ws, is)) (hb : shutBoxes h 0 cx.base = some js) (hd : distinct (is ++ js) = true) (hold : ∀ i ∈ is ++ js, ∀ cells, h i = some (.box cells) → cx.base ≤ i) :
    ∃ I N S fo, Post cx w (if hz : us.length = 1 then us[0]'(by omega) else .tuple us.toArray) (match ws with | [v] => v | ws => .tup ws) (outsOf h (is ++ js) 0 cx.base) I N S fo := by
  have hnd := distinct_nodup hd
  obtain ⟨n1, n2, n3⟩ := List.nodup_append.1 hnd
  obtain ⟨fs, b1, b2, b3⟩ := shutT_rel m hl hr hs n1
  obtain ⟨hjs, hbx⟩ := shutBoxes_spec hb
  have hinner : ∀ k, k < cx.base → ∀ i ∈ innerIds h k, i ∈ js := fun k hk i hi => by
    rw [hjs]; exact List.mem_flatMap.2 ⟨k, by rw [List.mem_range'_1]; omega, hi⟩
  have hinnd : ∀ k, k < cx.base → (innerIds h k).Nodup := fun k hk => by
    have h1 := List.pairwise_flatMap.1 (hjs ▸ n2)
    exact h1.1 k (by rw [List.mem_range'_1]; omega)
  have hindis : ∀ k l, k < cx.base → l < cx.base → k ≠ l → ∀ i ∈ innerIds h k, i ∉ innerIds h l := fun k l hk hl' hne i hi hi' => by
    have h1 := (List.pairwise_flatMap.1 (hjs ▸ n2)).2
    have hpw := List.pairwise_iff_getElem.1 h1
    rcases Nat.lt_or_gt_of_ne hne with hlt | hlt
    · exact hpw k l (by simpa using hk) (by simpa using hl') hlt i (by simpa using hi) i (by simpa using hi') rfl
    · exact hpw l k (by simpa using hl') (by simpa using hk) hlt i (by simpa using hi') i (by simpa using hi) rfl
  have houtgone : ∀ k o, k < cx.base → outOf h (is ++ js) k = some o → k ∉ is ++ js := by
    intro k o hk ho hm
    unfold outOf at ho
    cases hh : h k with
    | none => rw [hh] at ho; cases ho
    | some ob =>
      rw [hh] at ho
      cases ob with
      | box cells => have := hold k hm cells hh; omega
      | arr sz xs =>
        have : (is ++ js).contains k = true := by simpa using hm
        simp [this] at ho
        simp at hm
        rcases hm with hm | hm
        · exact absurd hm ho.1.1
        · exact absurd hm ho.1.2
      | map kb kvs => cases ho
  have hFpS : ∀ x, (∃ i, i < ws.length ∧ fs i x) → Fp h g is x := fun x ⟨i, hi, hx⟩ => b2 i x hi hx
  have hmine : ∀ ids x, Fp h g ids x → (cx.M x ∨ cx.w0.heap.size ≤ x) ∧ ¬ g.I x := fun ids x ⟨i, o, _, ho, hf⟩ => m.mine i o x ho hf
  -- the footprints of what comes back
  have hex : ∀ k, ∃ S : Nat → Prop, (∀ o, k < cx.base → outOf h (is ++ js) k = some o → Shut w g.I g.N (cx.v0 k) o.av S ∧ ∃ o0, cx.h0 k = some o0 ∧ o0.alike o) ∧ ∀ x, S x → Fp h g (k :: innerIds h k) x ∧ ∃ o, outOf h (is ++ js) k = some o := by
    intro k
    by_cases hkb : k < cx.base
    · cases hout : outOf h (is ++ js) k with
      | none => exact ⟨fun _ => False, fun o _ ho => (nomatch ho), fun _ hx => hx.elim⟩
      | some o =>
        have ho' := hout
        unfold outOf at ho'
        cases hh : h k with
        | none => rw [hh] at ho'; cases ho'
        | some ob =>
          rw [hh] at ho'
          obtain ⟨o0, g1, g2, g3⟩ := m.given k ob hkb hh
          cases ob with
          | box cells =>
            simp only at ho'
            obtain ⟨ds, hds⟩ := hbx k cells (Nat.zero_le _) (by omega) hh
            rw [hds] at ho'
            simp only [Option.some.injEq] at ho'
            subst ho'
            obtain ⟨S, h1, h2, _⟩ := box_shut m hh hds (hinnd k hkb)
            refine ⟨S, fun o1 _ he => ?_, fun x hx => ⟨h2 x hx, _, rfl⟩⟩
            obtain rfl := Option.some.inj he
            exact ⟨by rw [← g3]; exact h1, o0, g1, AO.alike.trans (p := .box cells) g2 trivial⟩
          | arr sz xs =>
            simp only at ho'
            split at ho'
            · cases ho'
            · simp only [Option.some.injEq] at ho'
              subst ho'
              obtain ⟨h1, h2⟩ := m.objs k _ hh
              refine ⟨g.fp k, fun o1 _ he => ?_, fun x hx => ⟨⟨k, _, List.mem_cons_self, hh, hx⟩, _, rfl⟩⟩
              obtain rfl := Option.some.inj he
              exact ⟨by rw [← g3]; exact .one _ _ _ h1 h2, o0, g1, g2⟩
          | map kb kvs => cases ho'
    · exact ⟨fun _ => False, fun o hk => absurd hk hkb, fun _ hx => hx.elim⟩
  refine ⟨g.I, g.N, fun x => ∃ i, i < ws.length ∧ fs i x, fun k => (hex k).choose, m.frame, outsOf_length _ _, m.I_up, m.I_new, m.I_N, m.N_up, m.N_new, m.N_lt, ?_, ?_, fun x hx => hmine is x (hFpS x hx), fun k x _ hx => hmine _ x ((hex k).choose_spec.2 x hx).1, ?_, ?_⟩
  · have hlw := b1.size
    cases ws with
    | nil =>
      have hz : ¬ us.length = 1 := by simp at hlw; simp [hlw]
      rw [dif_neg hz]
      exact .tup _ _ fs _ (by simpa using b1) (fun x => Iff.rfl)
    | cons v rest =>
      cases rest with
      | nil =>
        have hz : us.length = 1 := by simpa using hlw
        rw [dif_pos hz]
        have hz0 : 0 < us.length := by omega
        have h1 := b1.sh 0 us[0] v (List.getElem?_eq_getElem hz0) rfl
        refine .one _ _ _ ?_ (b3 v List.mem_cons_self)
        have he : (fun x => ∃ i, i < [v].length ∧ fs i x) = fs 0 := funext fun x => propext ⟨fun ⟨i, hi, hx⟩ => by
          have : i = 0 := by simpa using hi
          subst this; exact hx, fun hx => ⟨0, by simp, hx⟩⟩
        rw [he]
        exact h1
      | cons v2 rest =>
        have hz : ¬ us.length = 1 := by simp at hlw; omega
        rw [dif_neg hz]
        exact .tup _ _ fs _ (by simpa using b1) (fun x => Iff.rfl)
  · intro k o hk
    have hkb : k < cx.base := by
      have := (List.getElem?_eq_some_iff.1 hk).1
      rwa [outsOf_length] at this
    rw [outsOf_get hkb, Nat.zero_add] at hk
    exact (hex k).choose_spec.1 o hkb (Option.some.inj hk)
  · intro k x hk hx hf
    obtain ⟨h1, o, ho⟩ := (hex k).choose_spec.2 x hf
    have hng := houtgone k o hk ho
    refine Fp.apart m (fun i hi hi2 => ?_) (hFpS x hx) h1
    rcases List.mem_cons.1 hi2 with rfl | hi2
    · exact hng (List.mem_append.2 (.inl hi))
    · exact n3 i hi i (hinner k hk i hi2) rfl
  · intro k l x hk hl' hf hf'
    obtain ⟨h1, o, ho⟩ := (hex k).choose_spec.2 x hf
    obtain ⟨h2, o', ho'⟩ := (hex l).choose_spec.2 x hf'
    have hng := houtgone k o hk ho
    have hng' := houtgone l o' hl' ho'
    refine Classical.byContradiction fun hne => Fp.apart m (fun i hi hi2 => ?_) h1 h2
    rcases List.mem_cons.1 hi with rfl | hi <;> rcases List.mem_cons.1 hi2 with rfl | hi2
    · exact hne rfl
    · exact hng (List.mem_append.2 (.inr (hinner l hl' _ hi2)))
    · exact hng' (List.mem_append.2 (.inr (hinner k hk _ hi)))
    · exact hindis k l hk hl' hne i hi hi2
end
end Go.Proofs.YtndapkimhbngnaaDoor

namespace Go.Proofs.YtndapkimhbngnaaDoor
open Go Go.RowKit
set_option linter.unusedSimpArgs false

section
variable {cx : Cx} {nt : Nat}

def resOf (tmps : Array Value) : ResultVar → Sem Value
  | .tmp t => pure (tmps.getD t undef)
  | .cell a t => do loadVar t (← asAddr (tmps.getD a undef))

theorem res_rel {s : St} {g : Gh} {a : Act} {w : World} (c : Corr cx nt s g a w) : ∀ {rs : List ResultVar} {cs : List CRes} {vs : List AV}, chkRes cx.P rs cs = true → resVals s cs = some vs →
    ∃ us : List Value, (rs.mapM (resOf a.tmps)).run cx.P w = .ok us w ∧ us.length = vs.length ∧ ∀ (i : Nat) (u : Value) (d : AV), us[i]? = some u → vs[i]? = some d → SRel cx.num w cx.R g s.heap s.ep u d
  | [], [], vs, _, h => by
    simp only [resVals, Option.some.injEq] at h
    subst h
    exact ⟨[], rfl, rfl, fun i u d hu => by simp at hu⟩
  | .tmp t :: rs, .tmp t' :: cs, vs, hc, h => by
    simp only [chkRes, Bool.and_eq_true, beq_iff_eq] at hc
    obtain ⟨rfl, hc⟩ := hc
    simp only [resVals, resVal] at h
    cases h1 : resVals s cs with
    | none => rw [h1] at h; cases h
    | some vs' =>
      rw [h1] at h
      simp only [Option.some.injEq] at h
      subst h
      obtain ⟨us, h2, h3, h4⟩ := res_rel c hc h1
      refine ⟨a.tmps.getD t undef :: us, by simp [List.mapM_cons, resOf, h2], by simp [h3], fun i u d hu hd => ?_⟩
      cases i with
      | zero => simp only [List.getElem?_cons_zero, Option.some.injEq] at hu hd; subst hu; subst hd; exact c.slots t
      | succ i => exact h4 i u d (by simpa using hu) (by simpa using hd)
  | .cell t ty :: rs, .cell t' sz agg :: cs, vs, hc, h => by
    simp only [chkRes, Bool.and_eq_true, beq_iff_eq] at hc
    obtain ⟨rfl, hsz, hag, hc⟩ := hc
    obtain ⟨i0, hi, hi2⟩ := sizeB_some hsz
    simp only [decide_eq_true_eq] at hi2
    subst hi2
    split at hag
    case h_2 => cases hag
    rename_i d hd
    simp only [Bool.and_eq_true, beq_iff_eq, Bool.or_eq_true] at hag
    obtain ⟨rfl, h1s⟩ := hag
    simp only [resVals, resVal] at h
    have hr := c.slots t
    generalize s.slots t = c1 at h hr
    generalize hv : a.tmps.getD t undef = v1 at hr
    cases c1 <;> try (cases h; done)
    rename_i id i off
    cases i <;> cases off <;> try (cases h; done)
    simp only at h
    cases hh : s.heap id with
    | none => rw [hh] at h; cases h
    | some ob =>
      rw [hh] at h
      cases ob <;> try (cases h; done)
      rename_i cells
      simp only at h
      split at h
      · cases h
      · rename_i v hlv
        split at hlv
        case isFalse => cases hlv
        rename_i hlen
        cases h1 : resVals s cs with
        | none => rw [h1] at h; cases h
        | some vs' =>
          rw [h1] at h
          simp only [Option.some.injEq] at h
          subst h
          obtain ⟨us, h2, h3, h4⟩ := res_rel c hc h1
          obtain ⟨b, cur, e, h5, h6, h7, h8, h9, h10⟩ := c.mem.objs id _ hh
          cases hr with
          | ptr _ _ _ _ _ hu hv' =>
            obtain ⟨b', h11, h12⟩ := hv' _ hh
            rw [h5] at h11
            simp only [Value.pointer.injEq, Option.some.injEq, Addr.mk.injEq, and_true] at h11
            subst h11
            obtain ⟨hle, hrv⟩ := loadFrom_some (fun hf => h1s.resolve_left (by simp [hf])) hlv
            have hcell : ∀ j, j < i0.size → w.cell? ⟨b, 0 + j, none⟩ = some (cur.getD j undef) := fun j hj => by
              rw [cell_of_heap h6, Nat.zero_add, Array.getD_eq_getD_getElem?, Array.getElem?_eq_getElem (by omega)]; rfl
            have hrun := run_loadVar (w := w) hd hi b 0 (fun j => cur.getD j undef) hcell (fun hf => h1s.resolve_left (by simp [hf]))
            have hcr : ∀ j, j < i0.size → ∃ d0, cells[j]? = some d0 ∧ (cur.getD j undef).oneCell' = true ∧ SRel cx.num w cx.R g s.heap s.ep (cur.getD j undef) d0 := fun j hj => by
              have hcj : cells[j]? = some (cells[j]'(by omega)) := List.getElem?_eq_getElem (by omega)
              have huj : cur[j]? = some (cur.getD j undef) := by rw [Array.getD_eq_getD_getElem?, Array.getElem?_eq_getElem (by omega)]; rfl
              obtain ⟨h13, h14⟩ := h10 j _ _ huj hcj
              exact ⟨_, hcj, h13, h14⟩
            refine ⟨_ :: us, by simp only [List.mapM_cons, resOf, hv, h12, asAddr, Sem.run_bind, Sem.run_pure, Result.andThen_ok, hrun, h2]; rfl, by simp [h3], fun i u d0 hu hd0 => ?_⟩
            cases i with
            | succ i => exact h4 i u d0 (by simpa using hu) (by simpa using hd0)
            | zero =>
              simp only [List.getElem?_cons_zero, Option.some.injEq] at hu hd0
              subst hu; subst hd0
              rw [hrv]
              cases hdd : aggB d with
              | true =>
                simp only [if_true, List.drop_zero]
                refine .agg _ _ (by simp; omega) (fun j v hv => ?_) (fun j v c0 hv hc0 => ?_)
                · simp only [List.getElem?_toArray, List.getElem?_map] at hv
                  cases hj : (List.range i0.size)[j]? with
                  | none => rw [hj] at hv; cases hv
                  | some j' =>
                    rw [hj] at hv
                    simp only [Option.map_some, Option.some.injEq] at hv
                    obtain ⟨hlt, he⟩ := List.getElem?_eq_some_iff.1 hj
                    simp only [List.length_range] at hlt
                    simp only [List.getElem_range] at he
                    subst he; subst hv
                    exact (hcr j hlt).choose_spec.2.1
                · simp only [List.getElem?_toArray, List.getElem?_map] at hv
                  cases hj : (List.range i0.size)[j]? with
                  | none => rw [hj] at hv; cases hv
                  | some j' =>
                    rw [hj] at hv
                    simp only [Option.map_some, Option.some.injEq] at hv
                    obtain ⟨hlt, he⟩ := List.getElem?_eq_some_iff.1 hj
                    simp only [List.length_range] at hlt
                    simp only [List.getElem_range] at he
                    subst he; subst hv
                    obtain ⟨d1, h13, _, h14⟩ := hcr j hlt
                    rw [List.getElem?_take, if_pos hlt, h13] at hc0
                    obtain rfl := Option.some.inj hc0
                    exact h14
              | false =>
                simp only [Bool.false_eq_true, if_false, List.drop_zero]
                have h1z : i0.size = 1 := h1s.resolve_left (by simp [hdd])
                obtain ⟨d1, h13, _, h14⟩ := hcr 0 (by omega)
                rw [show cells.getD 0 .any = d1 by simp [List.getD, h13]]
                exact h14
  | [], _ :: _, _, hc, _ => by simp [chkRes] at hc
  | .tmp _ :: _, [], _, hc, _ => by simp [chkRes] at hc
  | .cell _ _ :: _, [], _, hc, _ => by simp [chkRes] at hc
  | .tmp _ :: _, .cell _ _ _ :: _, _, hc, _ => by simp [chkRes] at hc
  | .cell _ _ :: _, .tmp _ :: _, _, hc, _ => by simp [chkRes] at hc
end

theorem fn_contract {P : Program} {num : Nat → Option FuncId} {fz : List (Nat × Obj)} {f : FuncId} {fn : Func} {c : CFn} {cl : Callee} (hf : P.funcs[f]? = some fn) (hc : chkFn P num fn c = true) (hm : P.follows .mixedOrders = true)
    (hK : ∀ (k : Nat) (f : FuncId) (args : List AV) (objs : List AO) (r : AV) (outs : List (Option AO)), num k = some f → cl k args objs = some (r, outs) → Contract P num fz f args objs r outs)
    {args : List AV} {objs : List AO} {r : AV} {outs : List (Option AO)} (h : runFn cl c args objs = some (r, outs)) : Contract P num fz f args objs r outs := by
  intro cx g w vs hP hnum hfz hw0 hbase hh0 hv0 hu m hsz hrel
  subst hP; subst hnum; subst hfz
  simp only [chkFn, Bool.and_eq_true, bne_iff_ne, ne_eq, beq_iff_eq] at hc
  obtain ⟨hname, hnt, hbody⟩ := hc
  split at hbody
  case h_2 => cases hbody
  rename_i b hb
  simp only [Bool.and_eq_true] at hbody
  obtain ⟨hcode, hres⟩ := hbody
  simp only [runFn] at h
  split at h
  case isFalse => cases h
  rename_i hal
  cases hrun : runCode cl c.body ⟨startSlots args 0, startHeap objs 0, 0, objs.length, objs.length⟩ with
  | none => rw [hrun] at h; cases h
  | some p =>
    obtain ⟨ex, s⟩ := p
    rw [hrun] at h
    have hend : (ex = .ret ∨ ex = .normal) ∧ endFn c objs.length s = some (r, outs) := by
      cases ex with
      | ret => exact ⟨.inl rfl, h⟩
      | normal => exact ⟨.inr rfl, h⟩
      | exit id => cases h
    obtain ⟨hex, hend⟩ := hend
    intro o a next Q hnext
    have hcf : (callFunc f vs).run cx.P w = .ok (.enter f vs) w := by
      simp [callFunc, hf, hname, hb]
    rw [hcf, Oper.upon_enter]
    refine Calls.mono (R := fun e w' => match e with | .returned v => (∃ I N S fo, Post cx w' v r outs I N S fo) | _ => False) ?_ (fun e w' he => by
      cases e with
      | returned v => exact hnext v w' he
      | panicked _ => exact he.elim
      | outgrown => exact he.elim)
    refine calls_of_wp hf hb (code_goes hm hK c.body b hcode _ ex s _ w _ hrun ⟨g, ⟨?_, rfl, fun t => ?_, m⟩, hu, hbase.symm⟩ (fun a' w' hg => ?_))
    · show (vs ++ Array.replicate (fn.ntmps - vs.size) undef).size = c.nt
      simp; omega
    · show SRel cx.num w cx.R g (startHeap objs 0) 0 ((vs ++ Array.replicate (fn.ntmps - vs.size) undef).getD t undef) (startSlots args 0 t)
      rw [startSlots_get, if_pos (Nat.zero_le _), Nat.sub_zero]
      by_cases ht : t < args.length
      · have h1 : vs[t]? = some (vs[t]'(by omega)) := Array.getElem?_eq_getElem (by omega)
        have h2 : args[t]? = some (args[t]'ht) := List.getElem?_eq_getElem ht
        have h3 : (vs ++ Array.replicate (fn.ntmps - vs.size) undef).getD t undef = vs[t]'(by omega) := by
          rw [Array.getD_eq_getD_getElem?, Array.getElem?_append_left (by omega), h1]; rfl
        rw [h3, show args.getD t .any = args[t]'ht by simp [List.getD, h2]]
        exact hrel t _ _ h1 h2
      · rw [show args.getD t .any = .any by simp [List.getD, List.getElem?_eq_none (Nat.le_of_not_lt ht)]]
        exact .any _
    · obtain ⟨g', hcr, hu', hb'⟩ := hg
      unfold endFn at hend
      cases hrv : resVals s c.res with
      | none => rw [hrv] at hend; cases hend
      | some rvs =>
        rw [hrv] at hend
        simp only at hend
        cases hst : shutT s.heap rvs with
        | none => rw [hst] at hend; cases hend
        | some q =>
          obtain ⟨ws, is⟩ := q
          rw [hst] at hend
          simp only at hend
          cases hsb : shutBoxes s.heap 0 objs.length with
          | none => rw [hsb] at hend; cases hend
          | some js =>
            rw [hsb] at hend
            simp only at hend
            split at hend
            case isFalse => cases hend
            rename_i hcond
            simp only [Bool.and_eq_true, List.all_eq_true] at hcond
            simp only [Option.some.injEq, Prod.mk.injEq] at hend
            obtain ⟨hr1, hr2⟩ := hend
            obtain ⟨us, hrs, hul, hur⟩ := res_rel hcr hres hrv
            have hpost := end_post hcr.mem hul hur hst (by rw [hbase]; exact hsb) hcond.1 (fun i hi cells ho => by
              have := hcond.2 i hi
              rw [ho] at this
              rw [hbase]
              simpa using this)
            have hresults : (results fn a'.tmps).run cx.P w' = .ok (if hz : us.length = 1 then us[0]'(by omega) else .tuple us.toArray) w' := by
              have hmm : (fn.results.mapM (resOf a'.tmps)).run cx.P w' = .ok us.toArray w' := by
                rw [Array.mapM_eq_mapM_toList, Sem.run_map, hrs, Result.andThen_ok]
              have he : results fn a'.tmps = (do
                  let vs ← fn.results.mapM (resOf a'.tmps)
                  pure (if h : vs.size = 1 then vs[0] else .tuple vs)) := by
                unfold results
                congr 1
              rw [he]
              simp [hmm]
            have hpost' : ∃ I N S fo, Post cx w' (if hz : us.length = 1 then us[0]'(by omega) else .tuple us.toArray) r outs I N S fo := by
              rw [hbase] at hpost
              rw [← hr1, ← hr2]
              exact hpost
            rcases hex with rfl | rfl
            · exact ⟨hcr.defers, _, hresults, hpost'⟩
            · exact ⟨hcr.defers, _, hresults, hpost'⟩

/-- A program and its abstract one. -/
structure Tied (P : Program) (num : Nat → Option FuncId) (fz : List (Nat × Obj)) (p : CProg) : Prop where
  mixed : P.follows .mixedOrders = true
  fns : ∀ k c, p.fn k = some c → ∀ f, num k = some f → ∃ fn, P.funcs[f]? = some fn ∧ chkFn P num fn c = true
  prims : ∀ k f args objs r outs, num k = some f → p.fn k = none → p.prim k args objs = some (r, outs) → Contract P num fz f args objs r outs

theorem Tied.call {P : Program} {num : Nat → Option FuncId} {fz : List (Nat × Obj)} {p : CProg} (t : Tied P num fz p) : ∀ (d k : Nat) (f : FuncId) (args : List AV) (objs : List AO) (r : AV) (outs : List (Option AO)), num k = some f → p.call d k args objs = some (r, outs) → Contract P num fz f args objs r outs
  | 0, k, f, args, objs, r, outs, _, h => by cases h
  | d + 1, k, f, args, objs, r, outs, hn, h => by
    simp only [CProg.call] at h
    cases hc : p.fn k with
    | none => rw [hc] at h; exact t.prims k f args objs r outs hn hc h
    | some c =>
      rw [hc] at h
      obtain ⟨fn, hf, hchk⟩ := t.fns k c hc f hn
      exact fn_contract hf hchk t.mixed (fun k f args objs r outs hn h => t.call d k f args objs r outs hn h) h
end Go.Proofs.YtndapkimhbngnaaDoor

namespace Go.Proofs.YtndapkimhbngnaaDoor
open Go Go.RowKit Go.WideShapes
set_option linter.unusedSimpArgs false

/-- The shape of a value's cells. -/
inductive Sh where
  | bool
  | int (k : IntKind)
  | str
  | sl (row : List Sh)

mutual
def Fits : Sh → AV → Prop
  | .bool, c => ∃ b, c = .bool b
  | .int k, c => ∃ n, c = .int k n ∧ (Lit.int k n).wf = true
  | .str, c => ∃ s : ByteArray, c = .str s ∧ s.size ≤ maxLen
  | .sl row, c => ∃ xs, c = .sl .bor row.length xs ∧ xs.length ≤ maxLen ∧ ∀ r ∈ xs, FitsL row r
def FitsL : List Sh → List AV → Prop
  | [], [] => True
  | s :: ss, c :: cs => Fits s c ∧ FitsL ss cs
  | _, _ => False
end

theorem FitsL.append : ∀ {as bs : List Sh} {cs ds : List AV}, FitsL as cs → FitsL bs ds → FitsL (as ++ bs) (cs ++ ds)
  | [], _, [], _, _, h => h
  | _ :: _, _, _ :: _, _, h, k => by
    simp only [FitsL, List.cons_append] at h ⊢
    exact ⟨h.1, FitsL.append h.2 k⟩
  | [], _, _ :: _, _, h, _ => by simp [FitsL] at h
  | _ :: _, _, [], _, h, _ => by simp [FitsL] at h

theorem FitsL.len : ∀ {as : List Sh} {cs : List AV}, FitsL as cs → cs.length = as.length
  | [], [], _ => rfl
  | _ :: _, _ :: _, h => by simp only [FitsL] at h; simp [FitsL.len h.2]
  | [], _ :: _, h => by simp [FitsL] at h
  | _ :: _, [], h => by simp [FitsL] at h

def shFs (F : TypeId → Option (List Sh)) (P : Program) : Nat → List Field → Option (List Sh)
  | _, [] => some []
  | off, f :: fs => match F f.type with
    | some a => if f.offset = off ∧ P.cellsOf f.type = a.length then match shFs F P (off + a.length) fs with
      | some b => some (a ++ b)
      | none => none
      else none
    | none => none

/-- The shape of a type's cells. -/
def shOf (P : Program) : Nat → TypeId → Option (List Sh)
  | 0, _ => none
  | d + 1, t => match P.underlying t with
    | some .bool => some [.bool]
    | some (.int k) => some [.int k]
    | some .string => some [.str]
    | some (.slice e) => match shOf P d e with
      | some row => if P.cellsOf e = row.length ∧ row.length ≠ 0 then some [.sl row] else none
      | none => none
    | some (.struct fs) => match shFs (shOf P d) P 0 fs.toList with
      | some a => if P.cellsOf t = a.length then some a else none
      | none => none
    | _ => none

section
variable {H : Type} {enc : TypeId × Value → H} {P : Program} {W : World} {base : Nat} {spare : Nat → Bool} {held : Bool}

def Old (W : World) (b : Nat) : Prop := b < W.heap.size

/-- Cells that read as these. -/
structure ReadL (W : World) (cs : List Value) (sh : List Sh) (avs : List AV) : Prop where
  fits : FitsL sh avs
  len : cs.length = avs.length
  bor : ∀ (j : Nat) (u : Value) (c : AV), cs[j]? = some u → avs[j]? = some c → Bor W (Old W) u c

theorem ReadL.one {u : Value} {s : Sh} {c : AV} (hf : Fits s c) (hb : Bor W (Old W) u c) : ReadL W [u] [s] [c] := by
  refine ⟨⟨hf, trivial⟩, rfl, fun j v d hv hd => ?_⟩
  cases j with
  | zero => simp only [List.getElem?_cons_zero, Option.some.injEq] at hv hd; subst hv; subst hd; exact hb
  | succ j => simp at hv

theorem fields_read {F : TypeId → Option (List Sh)} {n : Nat} {cs : List Value} : ∀ (fs : List Field) (off : Nat) (sh : List Sh), shFs F P off fs = some sh → cs.length = off + sh.length →
    (∀ f ∈ fs, ∀ a, F f.type = some a → ∀ cs' y, DataW.trod enc P W base spare held n f.type cs' = some y → ∃ avs, ReadL W cs' a avs) →
    (∀ f ∈ fs, ∃ y, DataW.trod enc P W base spare held n f.type ((cs.drop f.offset).take (P.cellsOf f.type)) = some y) → ∃ avs, ReadL W (cs.drop off) sh avs
  | [], off, sh, hs, hl, _, _ => by
    simp only [shFs, Option.some.injEq] at hs
    subst hs
    refine ⟨[], trivial, by simp at hl ⊢; omega, fun j u c _ hc => by simp at hc⟩
  | f :: fs, off, sh, hs, hl, hF, hr => by
    simp only [shFs] at hs
    cases hf : F f.type with
    | none => rw [hf] at hs; cases hs
    | some a =>
      rw [hf] at hs
      simp only at hs
      split at hs
      case isFalse => cases hs
      rename_i hoff
      obtain ⟨hoff, hsz⟩ := hoff
      cases hb : shFs F P (off + a.length) fs with
      | none => rw [hb] at hs; cases hs
      | some b =>
        rw [hb] at hs
        simp only [Option.some.injEq] at hs
        subst hs
        rw [List.length_append] at hl
        obtain ⟨y, hy⟩ := hr f List.mem_cons_self
        obtain ⟨as, h1⟩ := hF f List.mem_cons_self a hf _ y hy
        obtain ⟨bs, h2⟩ := fields_read fs (off + a.length) b hb (by omega) (fun g hg => hF g (List.mem_cons_of_mem _ hg)) (fun g hg => hr g (List.mem_cons_of_mem _ hg))
        rw [hoff, hsz] at h1
        have hsplit : cs.drop off = (cs.drop off).take a.length ++ cs.drop (off + a.length) := by rw [← List.drop_drop, List.take_append_drop]
        have hla : ((cs.drop off).take a.length).length = a.length := by simp; omega
        have hlas := h1.fits.len
        refine ⟨as ++ bs, h1.fits.append h2.fits, by rw [hsplit, List.length_append, h1.len, h2.len, List.length_append], fun j u c hu hc => ?_⟩
        rw [hsplit] at hu
        by_cases hj : j < a.length
        · rw [List.getElem?_append_left (by omega)] at hu hc
          exact h1.bor j u c hu hc
        · rw [List.getElem?_append_right (by omega), hla] at hu
          rw [List.getElem?_append_right (by omega), hlas] at hc
          exact h2.bor _ u c hu hc

theorem cells_read : ∀ (d : Nat) (t : TypeId) (sh : List Sh), shOf P d t = some sh → ∀ (n : Nat) (cs : List Value) (y : DataW H × List MemPlace), DataW.trod enc P W base spare held n t cs = some y → ∃ avs, ReadL W cs sh avs
  | 0, _, _, hs => by cases hs
  | d + 1, t, sh, hs => by
    intro n cs y hy
    simp only [shOf] at hs
    cases ht : P.underlying t with
    | none => rw [ht] at hs; cases hs
    | some td =>
      rw [ht] at hs
      cases td <;> simp only [reduceCtorEq, Option.some.injEq] at hs
      · subst hs
        obtain ⟨b, rfl, _⟩ := DataW.trod_bool ht hy
        exact ⟨[.bool b], .one ⟨b, rfl⟩ (.bool b)⟩
      · subst hs
        obtain ⟨k, rfl, _, hw⟩ := DataW.trod_int ht hy
        exact ⟨[.int _ k], .one ⟨k, rfl, hw⟩ (.int _ _)⟩
      · subst hs
        obtain ⟨s, rfl, _, hw⟩ := DataW.trod_string ht hy
        exact ⟨[.str s], .one ⟨s, rfl, hw⟩ (.str _)⟩
      · rename_i e
        cases he : shOf P d e with
        | none => rw [he] at hs; cases hs
        | some row =>
          rw [he] at hs
          simp only at hs
          split at hs
          case isFalse => cases hs
          rename_i hsz
          obtain ⟨hsz, hpos⟩ := hsz
          simp only [Option.some.injEq] at hs
          subst hs
          rcases DataW.trod_slice ht hy with ⟨rfl, _⟩ | ⟨a, len, cap, elems, rest, m, _, rfl, _, _, hlc, hcm, hel, hget, _⟩
          · exact ⟨[.sl .bor row.length []], .one ⟨[], rfl, by simp, by simp⟩ (.nil _ _ _ _)⟩
          · by_cases hz : len = 0
            · subst hz
              exact ⟨[.sl .bor row.length []], .one ⟨[], rfl, by simp, by simp⟩ (.nil _ _ _ _)⟩
            · -- every row
              have hrow : ∀ i, ∃ avs csi, i < len → (∀ j, j < row.length → W.cell? ((a.add (i * row.length)).add j) = csi[j]?) ∧ csi.length = row.length ∧ ReadL W csi row avs := by
                intro i
                by_cases hi : i < len
                · have hgi := hget i hi
                  rw [show elems[i]? = some (elems[i]'(by omega)) from List.getElem?_eq_getElem _] at hgi
                  obtain ⟨csi, hc1, hc2⟩ := Option.bind_eq_some_iff.1 hgi
                  rw [hsz] at hc1
                  obtain ⟨_, hl, hcell⟩ := World.cells?_some hc1
                  obtain ⟨avs, hav⟩ := cells_read d e row he m csi _ hc2
                  exact ⟨avs, csi, fun _ => ⟨hcell, hl, hav⟩⟩
                · exact ⟨[], [], fun h => absurd h hi⟩
              let avr : Nat → List AV := fun i => (hrow i).choose
              let csr : Nat → List Value := fun i => (hrow i).choose_spec.choose
              have hr : ∀ i, i < len → (∀ j, j < row.length → W.cell? ((a.add (i * row.length)).add j) = (csr i)[j]?) ∧ (csr i).length = row.length ∧ ReadL W (csr i) row (avr i) := fun i hi => (hrow i).choose_spec.choose_spec hi
              obtain ⟨h01, h02, _⟩ := hr 0 (by omega)
              have hc00 : (csr 0)[0]? = some ((csr 0)[0]'(by omega)) := List.getElem?_eq_getElem _
              have hcell0 := h01 0 (by omega)
              rw [hc00] at hcell0
              have hspot : a.spot = none := by
                have := World.cell?_spot hcell0
                obtain ⟨b, off, sp⟩ := a
                unfold Addr.add at this
                split at this <;> split at this <;> simp_all
              obtain ⟨b, off, sp⟩ := a
              simp only at hspot
              subst hspot
              have hadd : ∀ i j, ((⟨b, off, none⟩ : Addr).add (i * row.length)).add j = ⟨b, off + i * row.length + j, none⟩ := fun i j => by rw [add_none, add_none]
              have hold : Old W b := by
                rw [hadd] at hcell0
                unfold World.cell? at hcell0
                unfold Old
                rcases Nat.lt_or_ge b W.heap.size with h | h
                · exact h
                · simp [Array.getElem?_eq_none h] at hcell0
              let xs : List (List AV) := (List.range len).map avr
              have hxl : xs.length = len := by simp [xs]
              have hxi : ∀ i r, xs[i]? = some r → i < len ∧ r = avr i := fun i r hi => by
                have h1 := (List.getElem?_eq_some_iff.1 hi).1
                have h2 : i < len := by omega
                simp only [xs, List.getElem?_map, List.getElem?_range h2, Option.map_some, Option.some.injEq] at hi
                exact ⟨h2, hi.symm⟩
              refine ⟨[.sl .bor row.length xs], .one ⟨xs, rfl, by omega, fun r hrm => ?_⟩ ?_⟩
              · obtain ⟨i, hi⟩ := List.getElem?_of_mem hrm
                obtain ⟨h1, rfl⟩ := hxi i r hi
                exact (hr i h1).2.2.fits
              · have hb := Bor.sl (w := W) (R := Old W) .bor row.length xs b off cap (fun i j => (csr i)[j]?.getD undef) (by omega) hold (fun r hrm => by
                    obtain ⟨i, hi⟩ := List.getElem?_of_mem hrm
                    obtain ⟨h1, rfl⟩ := hxi i r hi
                    exact (hr i h1).2.2.fits.len) (fun i j c hc => by
                    obtain ⟨r, h1, h2⟩ := cellAt_some.1 hc
                    obtain ⟨hi, rfl⟩ := hxi i r h1
                    obtain ⟨q1, q2, q3⟩ := hr i hi
                    have hj := (List.getElem?_eq_some_iff.1 h2).1
                    have hjl : j < row.length := by rw [← q3.fits.len]; exact hj
                    rw [← hadd, q1 j hjl, List.getElem?_eq_getElem (by omega)]; rfl) (fun i j c hc => by
                    obtain ⟨r, h1, h2⟩ := cellAt_some.1 hc
                    obtain ⟨hi, rfl⟩ := hxi i r h1
                    obtain ⟨q1, q2, q3⟩ := hr i hi
                    have hj := (List.getElem?_eq_some_iff.1 h2).1
                    have hjl : j < row.length := by rw [← q3.fits.len]; exact hj
                    have hu : (csr i)[j]? = some ((csr i)[j]'(by omega)) := List.getElem?_eq_getElem _
                    simp only [hu, Option.getD_some]
                    exact q3.bor j _ c hu h2)
                rw [hxl] at hb
                exact hb
      · rename_i fs
        cases hfs : shFs (shOf P d) P 0 fs.toList with
        | none => rw [hfs] at hs; cases hs
        | some a =>
          rw [hfs] at hs
          simp only at hs
          split at hs
          case isFalse => cases hs
          rename_i hsz
          simp only [Option.some.injEq] at hs
          subst hs
          obtain ⟨xs, m, _, _, hcl, hxl, hget⟩ := DataW.trod_struct ht hy
          have := fields_read (enc := enc) (W := W) (base := base) (spare := spare) (held := held) (n := m) (cs := cs) fs.toList 0 a hfs (by omega) (fun f _ a' ha cs' y hy => cells_read d f.type a' ha m cs' y hy) (fun f hf => by
            obtain ⟨i, hi⟩ := List.getElem?_of_mem hf
            have hi' : fs[i]? = some f := by simpa using hi
            have hlt := (Array.getElem?_eq_some_iff.1 hi').1
            exact ⟨xs[i]'(by omega), (hget i f hi').trans (List.getElem?_eq_getElem _)⟩)
          simpa using this
end
end Go.Proofs.YtndapkimhbngnaaDoor

namespace Go.Proofs.YtndapkimhbngnaaDoor
open Go Go.RowKit Go.WideShapes
set_option linter.unusedSimpArgs false

def cx0 (P : Program) (num : Nat → Option FuncId) (fz : List (Nat × Obj)) (W : World) : Cx := ⟨P, num, Old W, fun _ => False, Old W, Old W, W, 0, fun _ => none, fun _ => undef, fz⟩
def g0 (W : World) : Gh := ⟨fun _ => undef, fun _ _ => False, Old W, Old W, fun _ => False⟩

/-- An argument reads as this. -/
def ArgRel (num : Nat → Option FuncId) (W : World) (v : Value) (c : AV) : Prop := SRel num W (Old W) (g0 W) (fun _ => none) 0 v c

theorem mem0 (P : Program) (num : Nat → Option FuncId) {fz : List (Nat × Obj)} (W : World) (hfz : ∀ p ∈ fz, W.heap[p.1]? = some p.2) (hsrt : SrtAll P num) : Mem (cx0 P num fz W) (fun _ => none) 0 (g0 W) W :=
  ⟨fun _ _ h => (nomatch h), fun _ _ h => (nomatch h), fun _ _ _ _ _ h => (nomatch h), fun _ _ _ h => (nomatch h), fun _ h => h, fun _ h => h, fun _ h => .inl h, fun _ h => h, fun _ h => h, fun _ h => .inl h,
    fun _ h => absurd h (Nat.not_lt_zero _), fun _ _ h => absurd h (Nat.not_lt_zero _), fun _ h => h, fun _ h => ⟨h, fun h => h⟩, fun _ h => ⟨h, fun h => h⟩, FrameW.refl _ _, fun p hp => ⟨(Array.getElem?_eq_some_iff.1 (hfz p hp)).1, hfz p hp⟩, hsrt⟩

/-- What came with the call from outside nobody writes. -/
theorem ArgRel.imm {num : Nat → Option FuncId} {W : World} {v : Value} {sz : Nat} {xs : List (List AV)} (h : ArgRel num W v (.sl .bor sz xs)) : ArgRel num W v (.sl .imm sz xs) := by
  cases h with
  | sl _ _ _ _ h1 hm _ _ => exact .sl _ _ _ _ h1 (fun _ => (hm rfl).md) (fun e he => by cases he) (by simp)

theorem fits_lend : ∀ {s : Sh} {c : AV}, Fits s c → c.lend .bor = c
  | .bool, c, h => by simp only [Fits] at h; obtain ⟨b, rfl⟩ := h; rfl
  | .int k, c, h => by simp only [Fits] at h; obtain ⟨n, rfl, _⟩ := h; rfl
  | .str, c, h => by simp only [Fits] at h; obtain ⟨s, rfl, _⟩ := h; rfl
  | .sl row, c, h => by simp only [Fits] at h; obtain ⟨xs, rfl, _⟩ := h; rfl

theorem FitsL.get : ∀ {ss : List Sh} {cs : List AV}, FitsL ss cs → ∀ (j : Nat) (c : AV), cs[j]? = some c → ∃ s, ss[j]? = some s ∧ Fits s c
  | [], [], _, j, c, h => by simp at h
  | s :: ss, d :: cs, h, j, c, hc => by
    simp only [FitsL] at h
    cases j with
    | zero => simp only [List.getElem?_cons_zero, Option.some.injEq] at hc; subst hc; exact ⟨s, rfl, h.1⟩
    | succ j => obtain ⟨s', h1, h2⟩ := FitsL.get h.2 j c (by simpa using hc); exact ⟨s', by simpa using h1, h2⟩
  | [], _ :: _, h, _, _, _ => by simp [FitsL] at h
  | _ :: _, [], h, _, _, _ => by simp [FitsL] at h

section
variable {H : Type} {enc : TypeId × Value → H} {P : Program} {num : Nat → Option FuncId} {W : World} {r : Reach} {b0 base : Nat} {spare : Nat → Bool} {held : Bool} {t : TypeId} {v : Value} {d : DataW H} {ps : List MemPlace}

theorem ReadL.arg {cs : List Value} {sh : List Sh} {avs : List AV} (h : ReadL W cs sh avs) {j : Nat} {u : Value} {c : AV} (hu : cs[j]? = some u) (hc : avs[j]? = some c) : ArgRel num W u c ∧ u.oneCell' = true := by
  obtain ⟨s, _, hs⟩ := h.fits.get j c hc
  have hb := h.bor j u c hu hc
  have := SRel.of_bor (num := num) (w := W) (R := Old W) (g := g0 W) (h := fun _ => none) (ep := 0) (m := .bor) hb (fun e he => by cases he) (by simp)
  rw [fits_lend hs] at this
  exact ⟨this, hb.one⟩

theorem arg_struct {fs : Array Field} (ht : P.underlying t = some (.struct fs)) {k : Nat} {sh : List Sh} (hs : shOf P k t = some sh) (hval : Value.okWide P W r b0 t v) (hd : DataW.Trod enc P W base spare held t v d ps) :
    ∃ avs, FitsL sh avs ∧ ArgRel num W v (.agg avs) := by
  obtain ⟨vs, rfl, _⟩ := okWide_struct ht hval
  obtain ⟨n, hn⟩ := hd
  obtain ⟨avs, ha⟩ := cells_read k t sh hs n _ _ hn
  simp only [Value.cells] at ha
  refine ⟨avs, ha.fits, .agg vs avs (by simpa using ha.len) (fun i u hu => ?_) (fun i u c hu hc => (ha.arg (num := num) (by simpa using hu) hc).1)⟩
  have hi := (Array.getElem?_eq_some_iff.1 hu).1
  have hl := ha.len
  rw [Array.length_toList] at hl
  exact (ha.arg (num := num) (j := i) (by simpa using hu) (List.getElem?_eq_getElem (by omega))).2

theorem arg_one {s : Sh} {k : Nat} (hs : shOf P k t = some [s]) (hv : v.cells.toList = [v]) (hd : DataW.Trod enc P W base spare held t v d ps) : ∃ c, Fits s c ∧ ArgRel num W v c := by
  obtain ⟨n, hn⟩ := hd
  obtain ⟨avs, ha⟩ := cells_read k t [s] hs n _ _ hn
  rw [hv] at ha
  have hl := ha.fits.len
  match avs, hl, ha with
  | [c], _, ha =>
    have hf := ha.fits
    simp only [FitsL, and_true] at hf
    exact ⟨c, hf, (ha.arg (j := 0) rfl rfl).1⟩

theorem arg_int {q : IntKind} (ht : P.underlying t = some (.int q)) (hval : Value.okWide P W r b0 t v) (hd : DataW.Trod enc P W base spare held t v d ps) : ∃ n, ArgRel num W v (.int q n) ∧ (Lit.int q n).wf = true := by
  obtain ⟨n, rfl⟩ := okWide_int ht hval
  obtain ⟨c, h1, h2⟩ := arg_one (num := num) (k := 1) (s := .int q) (by simp [shOf, ht]) rfl hd
  simp only [Fits] at h1
  obtain ⟨m, rfl, hw⟩ := h1
  exact ⟨m, h2, hw⟩

theorem arg_str (ht : P.underlying t = some .string) (hval : Value.okWide P W r b0 t v) (hd : DataW.Trod enc P W base spare held t v d ps) : ∃ s : ByteArray, ArgRel num W v (.str s) ∧ s.size ≤ maxLen := by
  obtain ⟨n, rfl⟩ := okWide_string ht hval
  obtain ⟨c, h1, h2⟩ := arg_one (num := num) (k := 1) (s := .str) (by simp [shOf, ht]) rfl hd
  simp only [Fits] at h1
  obtain ⟨m, rfl, hw⟩ := h1
  exact ⟨m, h2, hw⟩

theorem arg_slice {e : TypeId} (ht : P.underlying t = some (.slice e)) {k : Nat} {row : List Sh} (hs : shOf P k t = some [.sl row]) (hval : Value.okWide P W r b0 t v) (hd : DataW.Trod enc P W base spare held t v d ps) :
    ∃ xs, ArgRel num W v (.sl .bor row.length xs) ∧ xs.length ≤ maxLen ∧ ∀ x ∈ xs, FitsL row x := by
  obtain ⟨a, len, cap, rfl⟩ := okWide_slice ht hval
  obtain ⟨c, h1, h2⟩ := arg_one (num := num) (k := k) (s := .sl row) hs rfl hd
  simp only [Fits] at h1
  obtain ⟨xs, rfl, h3, h4⟩ := h1
  exact ⟨xs, h2, h3, h4⟩
end

/-- The arguments of a call, side by side. -/
inductive ArgsRel (num : Nat → Option FuncId) (W : World) : List Value → List AV → Prop
  | nil : ArgsRel num W [] []
  | cons (v : Value) (c : AV) (vs : List Value) (cs : List AV) (h : ArgRel num W v c) (hs : ArgsRel num W vs cs) : ArgsRel num W (v :: vs) (c :: cs)

theorem ArgsRel.get {num : Nat → Option FuncId} {W : World} {vs : List Value} {cs : List AV} (h : ArgsRel num W vs cs) : vs.length = cs.length ∧ ∀ (i : Nat) (v : Value) (c : AV), vs[i]? = some v → cs[i]? = some c → ArgRel num W v c := by
  induction h with
  | nil => exact ⟨rfl, fun i v c hv => by simp at hv⟩
  | cons v c vs cs h _ ih =>
    refine ⟨by simp [ih.1], fun i u d hu hd => ?_⟩
    cases i with
    | zero => simp only [List.getElem?_cons_zero, Option.some.injEq] at hu hd; subst hu; subst hd; exact h
    | succ i => exact ih.2 i u d (by simpa using hu) (by simpa using hd)

/-- A call from outside that answers with a truth value, and turns nothing that was there. -/
theorem law_calls {P : Program} {num : Nat → Option FuncId} {fz : List (Nat × Obj)} {f : FuncId} {fn : Func} {body : Code} (hf : P.funcs[f]? = some fn) (hb : fn.body = some body) (hn : fn.name ≠ "runtime.NumGoroutine") {args : List AV} {ans : Bool}
    (hC : Contract P num fz f args [] (.bool ans) []) {W : World} (hfz : ∀ p ∈ fz, W.heap[p.1]? = some p.2) (hsrt : SrtAll P num) {vs : Array Value} (ha : ArgsRel num W vs.toList args) : Calls P f vs W fun e W' => e = .returned (.bool ans) ∧ Below W.heap.size W W' := by
  obtain ⟨hl, hg⟩ := ha.get
  rw [Array.length_toList] at hl
  have h := hC (cx0 P num fz W) (g0 W) W vs rfl rfl rfl rfl rfl rfl rfl (fun _ h => h.elim) (mem0 P num W hfz hsrt) hl (fun i v c hv hc => hg i v c (by simpa using hv) hc)
  have h2 := h ⟨some 0, .move (.tmp 0), 0, "", #[], none⟩ ⟨#[undef], []⟩ (fun a' w' => ∃ I N S fo, Post (cx0 P num fz W) w' (a'.tmps.getD 0 undef) (.bool ans) [] I N S fo) (fun _ _ _ => False) (fun v w' hp => by
    have : ((⟨#[undef], []⟩ : Act).put (some 0) v).tmps.getD 0 undef = v := by simp [Act.put]
    rw [this]; exact hp)
  have hcf : (callFunc f vs).run P W = .ok (.enter f vs) W := by simp [callFunc, hf, hn, hb]
  rw [hcf, Oper.upon_enter] at h2
  refine h2.mono fun e w' he => ?_
  cases e with
  | panicked _ => exact he.elim
  | outgrown => obtain ⟨_, _, h⟩ := he; exact h.elim
  | returned v =>
    obtain ⟨I, N, S, fo, hp⟩ := he
    have hv : ((⟨#[undef], []⟩ : Act).put (some 0) v).tmps.getD 0 undef = v := by simp [Act.put]
    rw [hv] at hp
    have hres := hp.res
    have : v = .bool ans := by
      cases hres with
      | one _ _ _ h _ => cases h with
        | one _ _ _ h _ => cases h; rfl
    subst this
    exact ⟨rfl, hp.frame.os, hp.frame.tape, hp.frame.output, hp.frame.size, fun k hk => hp.frame.block k hk (fun h => h)⟩
end Go.Proofs.YtndapkimhbngnaaDoor

namespace Go.Proofs.YtndapkimhbngnaaDoor
open Go Go.RowKit Go.WideShapes
set_option linter.unusedSimpArgs false

def I64 (n : Int) : Prop := -9223372036854775808 ≤ n ∧ n ≤ 9223372036854775807
theorem i64_wf {n : Int} (h : (Lit.int .i64 n).wf = true) : I64 n := by
  simp [Lit.wf, IntKind.min, IntKind.max, IntKind.signed, IntKind.bits] at h
  unfold I64
  omega

def shWant : List Sh := [.str, .int .i64, .str, .int .i64, .int .i64, .int .i64, .int .i64]
def shRun : List Sh := shWant ++ [.int .i64, .int .i64, .int .i64, .int .i64]
def shAsk : List Sh := [.str, .str, .int .i64, .int .i64]
def shMate : List Sh := [.str, .bool, .int .i64, .bool, .int .i64, .sl shWant, .sl shRun, .sl shAsk, .sl shAsk]
def shParcel : List Sh := [.int .i64, .str, .int .i64, .sl shWant, .str, .str, .int .i64]
def shGrant : List Sh := [.str, .str, .str, .int .i64, .int .i64]
def shPlace : List Sh := [.str, .int .i64, .sl shWant]
def shLand : List Sh := [.int .i64, .sl shGrant, .sl shPlace]
def shWorld : List Sh := shLand ++ [.sl shMate, .sl [.str]]
def shEvent : List Sh := [.int .i64, .int .i64, .int .i64, .sl shWant, .sl [.int .i64]]

structure Want.wf (w : Want) : Prop where
  copy : w.copy.size ≤ maxLen
  hold : w.hold.size ≤ maxLen
  version : I64 w.version
  pull : I64 w.pull
  start : I64 w.start
  dies : I64 w.dies
  grace : I64 w.grace
structure Run.wf (r : Run) : Prop where
  want : r.want.wf
  state : I64 r.state
  left : I64 r.left
  falls : I64 r.falls
  til : I64 r.til
structure Ask.wf (a : Ask) : Prop where
  hold : a.hold.size ≤ maxLen
  copy : a.copy.size ≤ maxLen
  first : I64 a.first
  at_ : I64 a.at_
structure ListWf {α : Type} (p : α → Prop) (xs : List α) : Prop where
  len : xs.length ≤ maxLen
  all : ∀ x ∈ xs, p x
structure Mate.wf (m : Mate) : Prop where
  name : m.name.size ≤ maxLen
  clock : I64 m.clock
  seen : I64 m.seen
  wants : ListWf Want.wf m.wants
  runs : ListWf Run.wf m.runs
  asks : ListWf Ask.wf m.asks
  gives : ListWf Ask.wf m.gives
structure Parcel.wf (p : Parcel) : Prop where
  kind : I64 p.kind
  berth : p.berth.size ≤ maxLen
  seen : I64 p.seen
  wants : ListWf Want.wf p.wants
  hold : p.hold.size ≤ maxLen
  copy : p.copy.size ≤ maxLen
  at_ : I64 p.at_
structure Grant.wf (g : Grant) : Prop where
  hold : g.hold.size ≤ maxLen
  berth : g.berth.size ≤ maxLen
  copy : g.copy.size ≤ maxLen
  at_ : I64 g.at_
  til : I64 g.til
structure Place.wf (p : Place) : Prop where
  berth : p.berth.size ≤ maxLen
  seen : I64 p.seen
  wants : ListWf Want.wf p.wants
structure Land.wf (l : Land) : Prop where
  time : I64 l.time
  grants : ListWf Grant.wf l.grants
  places : ListWf Place.wf l.places
structure Wld.wf (w : Wld) : Prop where
  land : w.land.wf
  mates : ListWf Mate.wf w.mates
  flight : ListWf (fun s : T => s.size ≤ maxLen) w.flight
structure Event.wf (e : Event) : Prop where
  kind : I64 e.kind
  a : I64 e.a
  b : I64 e.b
  wants : ListWf Want.wf e.wants
  rates : ListWf I64 e.rates

theorem fits_str {c : AV} (h : Fits .str c) : ∃ s : T, c = .str s ∧ s.size ≤ maxLen := by simpa only [Fits] using h
theorem fits_int {c : AV} (h : Fits (.int .i64) c) : ∃ n, c = .int .i64 n ∧ I64 n := by
  simp only [Fits] at h
  obtain ⟨n, h1, h2⟩ := h
  exact ⟨n, h1, i64_wf h2⟩
theorem fits_bool {c : AV} (h : Fits .bool c) : ∃ b, c = .bool b := by simpa only [Fits] using h
theorem fits_list {α : Type} {row : List Sh} {cf : α → List AV} {p : α → Prop} (hr : ∀ c, FitsL row c → ∃ x, c = cf x ∧ p x) {c : AV} (h : Fits (.sl row) c) : ∃ xs, c = .sl .bor row.length (xs.map cf) ∧ ListWf p xs := by
  simp only [Fits] at h
  obtain ⟨rows, rfl, hl, ha⟩ := h
  have : ∀ rows : List (List AV), (∀ r ∈ rows, FitsL row r) → ∃ xs : List α, rows = xs.map cf ∧ ∀ x ∈ xs, p x := by
    intro rows
    induction rows with
    | nil => intro _; exact ⟨[], rfl, by simp⟩
    | cons r rows ih =>
      intro h
      obtain ⟨x, h1, h2⟩ := hr r (h r List.mem_cons_self)
      obtain ⟨xs, h3, h4⟩ := ih fun r hr => h r (List.mem_cons_of_mem _ hr)
      exact ⟨x :: xs, by rw [h1, h3]; rfl, fun y hy => by
        rcases List.mem_cons.1 hy with rfl | hy
        · exact h2
        · exact h4 y hy⟩
  obtain ⟨xs, rfl, h2⟩ := this rows ha
  exact ⟨xs, rfl, by simpa using hl, h2⟩
theorem fitsL_nil {c : List AV} (h : FitsL [] c) : c = [] := by
  cases c with
  | nil => rfl
  | cons _ _ => simp [FitsL] at h
theorem fitsL_cons {s : Sh} {ss : List Sh} {c : List AV} (h : FitsL (s :: ss) c) : ∃ d ds, c = d :: ds ∧ Fits s d ∧ FitsL ss ds := by
  cases c with
  | nil => simp [FitsL] at h
  | cons d ds => exact ⟨d, ds, rfl, by simpa [FitsL] using h⟩

theorem want_of {c : List AV} (h : FitsL shWant c) : ∃ w : Want, c = w.c ∧ w.wf := by
  obtain ⟨_, _, rfl, h0, h⟩ := fitsL_cons h
  obtain ⟨_, _, rfl, h1, h⟩ := fitsL_cons h
  obtain ⟨_, _, rfl, h2, h⟩ := fitsL_cons h
  obtain ⟨_, _, rfl, h3, h⟩ := fitsL_cons h
  obtain ⟨_, _, rfl, h4, h⟩ := fitsL_cons h
  obtain ⟨_, _, rfl, h5, h⟩ := fitsL_cons h
  obtain ⟨_, _, rfl, h6, h⟩ := fitsL_cons h
  obtain rfl := fitsL_nil h
  obtain ⟨s, rfl, k0⟩ := fits_str h0
  obtain ⟨n1, rfl, k1⟩ := fits_int h1
  obtain ⟨t, rfl, k2⟩ := fits_str h2
  obtain ⟨n3, rfl, k3⟩ := fits_int h3
  obtain ⟨n4, rfl, k4⟩ := fits_int h4
  obtain ⟨n5, rfl, k5⟩ := fits_int h5
  obtain ⟨n6, rfl, k6⟩ := fits_int h6
  exact ⟨⟨s, n1, t, n3, n4, n5, n6⟩, rfl, k0, k2, k1, k3, k4, k5, k6⟩

theorem run_of {c : List AV} (h : FitsL shRun c) : ∃ r : Run, c = r.c ∧ r.wf := by
  unfold shRun shWant at h
  obtain ⟨_, _, rfl, h0, h⟩ := fitsL_cons h
  obtain ⟨_, _, rfl, h1, h⟩ := fitsL_cons h
  obtain ⟨_, _, rfl, h2, h⟩ := fitsL_cons h
  obtain ⟨_, _, rfl, h3, h⟩ := fitsL_cons h
  obtain ⟨_, _, rfl, h4, h⟩ := fitsL_cons h
  obtain ⟨_, _, rfl, h5, h⟩ := fitsL_cons h
  obtain ⟨_, _, rfl, h6, h⟩ := fitsL_cons h
  obtain ⟨_, _, rfl, h7, h⟩ := fitsL_cons h
  obtain ⟨_, _, rfl, h8, h⟩ := fitsL_cons h
  obtain ⟨_, _, rfl, h9, h⟩ := fitsL_cons h
  obtain ⟨_, _, rfl, h10, h⟩ := fitsL_cons h
  obtain rfl := fitsL_nil h
  obtain ⟨s, rfl, k0⟩ := fits_str h0
  obtain ⟨n1, rfl, k1⟩ := fits_int h1
  obtain ⟨t, rfl, k2⟩ := fits_str h2
  obtain ⟨n3, rfl, k3⟩ := fits_int h3
  obtain ⟨n4, rfl, k4⟩ := fits_int h4
  obtain ⟨n5, rfl, k5⟩ := fits_int h5
  obtain ⟨n6, rfl, k6⟩ := fits_int h6
  obtain ⟨n7, rfl, k7⟩ := fits_int h7
  obtain ⟨n8, rfl, k8⟩ := fits_int h8
  obtain ⟨n9, rfl, k9⟩ := fits_int h9
  obtain ⟨n10, rfl, k10⟩ := fits_int h10
  exact ⟨⟨⟨s, n1, t, n3, n4, n5, n6⟩, n7, n8, n9, n10⟩, rfl, ⟨k0, k2, k1, k3, k4, k5, k6⟩, k7, k8, k9, k10⟩

theorem ask_of {c : List AV} (h : FitsL shAsk c) : ∃ a : Ask, c = a.c ∧ a.wf := by
  obtain ⟨_, _, rfl, h0, h⟩ := fitsL_cons h
  obtain ⟨_, _, rfl, h1, h⟩ := fitsL_cons h
  obtain ⟨_, _, rfl, h2, h⟩ := fitsL_cons h
  obtain ⟨_, _, rfl, h3, h⟩ := fitsL_cons h
  obtain rfl := fitsL_nil h
  obtain ⟨s, rfl, k0⟩ := fits_str h0
  obtain ⟨t, rfl, k1⟩ := fits_str h1
  obtain ⟨n2, rfl, k2⟩ := fits_int h2
  obtain ⟨n3, rfl, k3⟩ := fits_int h3
  exact ⟨⟨s, t, n2, n3⟩, rfl, k0, k1, k2, k3⟩

theorem grant_of {c : List AV} (h : FitsL shGrant c) : ∃ g : Grant, c = g.c ∧ g.wf := by
  obtain ⟨_, _, rfl, h0, h⟩ := fitsL_cons h
  obtain ⟨_, _, rfl, h1, h⟩ := fitsL_cons h
  obtain ⟨_, _, rfl, h2, h⟩ := fitsL_cons h
  obtain ⟨_, _, rfl, h3, h⟩ := fitsL_cons h
  obtain ⟨_, _, rfl, h4, h⟩ := fitsL_cons h
  obtain rfl := fitsL_nil h
  obtain ⟨s, rfl, k0⟩ := fits_str h0
  obtain ⟨t, rfl, k1⟩ := fits_str h1
  obtain ⟨u, rfl, k2⟩ := fits_str h2
  obtain ⟨n3, rfl, k3⟩ := fits_int h3
  obtain ⟨n4, rfl, k4⟩ := fits_int h4
  exact ⟨⟨s, t, u, n3, n4⟩, rfl, k0, k1, k2, k3, k4⟩

theorem mate_of {c : List AV} (h : FitsL shMate c) : ∃ m : Mate, c = m.c .bor ∧ m.wf := by
  obtain ⟨_, _, rfl, h0, h⟩ := fitsL_cons h
  obtain ⟨_, _, rfl, h1, h⟩ := fitsL_cons h
  obtain ⟨_, _, rfl, h2, h⟩ := fitsL_cons h
  obtain ⟨_, _, rfl, h3, h⟩ := fitsL_cons h
  obtain ⟨_, _, rfl, h4, h⟩ := fitsL_cons h
  obtain ⟨_, _, rfl, h5, h⟩ := fitsL_cons h
  obtain ⟨_, _, rfl, h6, h⟩ := fitsL_cons h
  obtain ⟨_, _, rfl, h7, h⟩ := fitsL_cons h
  obtain ⟨_, _, rfl, h8, h⟩ := fitsL_cons h
  obtain rfl := fitsL_nil h
  obtain ⟨s, rfl, k0⟩ := fits_str h0
  obtain ⟨b1, rfl⟩ := fits_bool h1
  obtain ⟨n2, rfl, k2⟩ := fits_int h2
  obtain ⟨b3, rfl⟩ := fits_bool h3
  obtain ⟨n4, rfl, k4⟩ := fits_int h4
  obtain ⟨ws, rfl, k5⟩ := fits_list (fun _ => want_of) h5
  obtain ⟨rs, rfl, k6⟩ := fits_list (fun _ => run_of) h6
  obtain ⟨as, rfl, k7⟩ := fits_list (fun _ => ask_of) h7
  obtain ⟨gs, rfl, k8⟩ := fits_list (fun _ => ask_of) h8
  exact ⟨⟨s, b1, n2, b3, n4, ws, rs, as, gs⟩, rfl, k0, k2, k4, k5, k6, k7, k8⟩

theorem parcel_of {c : List AV} (h : FitsL shParcel c) : ∃ p : Parcel, c = p.c .bor ∧ p.wf := by
  obtain ⟨_, _, rfl, h0, h⟩ := fitsL_cons h
  obtain ⟨_, _, rfl, h1, h⟩ := fitsL_cons h
  obtain ⟨_, _, rfl, h2, h⟩ := fitsL_cons h
  obtain ⟨_, _, rfl, h3, h⟩ := fitsL_cons h
  obtain ⟨_, _, rfl, h4, h⟩ := fitsL_cons h
  obtain ⟨_, _, rfl, h5, h⟩ := fitsL_cons h
  obtain ⟨_, _, rfl, h6, h⟩ := fitsL_cons h
  obtain rfl := fitsL_nil h
  obtain ⟨n0, rfl, k0⟩ := fits_int h0
  obtain ⟨s, rfl, k1⟩ := fits_str h1
  obtain ⟨n2, rfl, k2⟩ := fits_int h2
  obtain ⟨ws, rfl, k3⟩ := fits_list (fun _ => want_of) h3
  obtain ⟨t, rfl, k4⟩ := fits_str h4
  obtain ⟨u, rfl, k5⟩ := fits_str h5
  obtain ⟨n6, rfl, k6⟩ := fits_int h6
  exact ⟨⟨n0, s, n2, ws, t, u, n6⟩, rfl, k0, k1, k2, k3, k4, k5, k6⟩

theorem place_of {c : List AV} (h : FitsL shPlace c) : ∃ p : Place, c = p.c .bor ∧ p.wf := by
  obtain ⟨_, _, rfl, h0, h⟩ := fitsL_cons h
  obtain ⟨_, _, rfl, h1, h⟩ := fitsL_cons h
  obtain ⟨_, _, rfl, h2, h⟩ := fitsL_cons h
  obtain rfl := fitsL_nil h
  obtain ⟨s, rfl, k0⟩ := fits_str h0
  obtain ⟨n1, rfl, k1⟩ := fits_int h1
  obtain ⟨ws, rfl, k2⟩ := fits_list (fun _ => want_of) h2
  exact ⟨⟨s, n1, ws⟩, rfl, k0, k1, k2⟩

theorem land_of {c : List AV} (h : FitsL shLand c) : ∃ l : Land, c = l.c .bor .bor ∧ l.wf := by
  obtain ⟨_, _, rfl, h0, h⟩ := fitsL_cons h
  obtain ⟨_, _, rfl, h1, h⟩ := fitsL_cons h
  obtain ⟨_, _, rfl, h2, h⟩ := fitsL_cons h
  obtain rfl := fitsL_nil h
  obtain ⟨n0, rfl, k0⟩ := fits_int h0
  obtain ⟨gs, rfl, k1⟩ := fits_list (fun _ => grant_of) h1
  obtain ⟨ps, rfl, k2⟩ := fits_list (fun _ => place_of) h2
  exact ⟨⟨n0, gs, ps⟩, rfl, k0, k1, k2⟩

theorem str1_of {c : List AV} (h : FitsL [.str] c) : ∃ s : T, c = [.str s] ∧ s.size ≤ maxLen := by
  obtain ⟨_, _, rfl, h0, h⟩ := fitsL_cons h
  obtain rfl := fitsL_nil h
  obtain ⟨s, rfl, k0⟩ := fits_str h0
  exact ⟨s, rfl, k0⟩
theorem int1_of {c : List AV} (h : FitsL [.int .i64] c) : ∃ n, c = [.int .i64 n] ∧ I64 n := by
  obtain ⟨_, _, rfl, h0, h⟩ := fitsL_cons h
  obtain rfl := fitsL_nil h
  obtain ⟨n, rfl, k0⟩ := fits_int h0
  exact ⟨n, rfl, k0⟩

abbrev rowB (b : Int) : List AV := [.int .u8 b]
def Byte (n : Int) : Prop := 0 ≤ n ∧ n ≤ 255
theorem byte1_of {c : List AV} (h : FitsL [.int .u8] c) : ∃ n, c = rowB n ∧ Byte n := by
  obtain ⟨_, _, rfl, h0, h⟩ := fitsL_cons h
  obtain rfl := fitsL_nil h
  simp only [Fits] at h0
  obtain ⟨n, rfl, hw⟩ := h0
  refine ⟨n, rfl, ?_⟩
  simp [Lit.wf, IntKind.min, IntKind.max, IntKind.signed, IntKind.bits] at hw
  unfold Byte
  omega

theorem world_of {c : List AV} (h : FitsL shWorld c) : ∃ w : Wld, c = w.c .bor .bor ∧ w.wf := by
  unfold shWorld shLand at h
  obtain ⟨_, _, rfl, h0, h⟩ := fitsL_cons h
  obtain ⟨_, _, rfl, h1, h⟩ := fitsL_cons h
  obtain ⟨_, _, rfl, h2, h⟩ := fitsL_cons h
  obtain ⟨_, _, rfl, h3, h⟩ := fitsL_cons h
  obtain ⟨_, _, rfl, h4, h⟩ := fitsL_cons h
  obtain rfl := fitsL_nil h
  obtain ⟨n0, rfl, k0⟩ := fits_int h0
  obtain ⟨gs, rfl, k1⟩ := fits_list (fun _ => grant_of) h1
  obtain ⟨ps, rfl, k2⟩ := fits_list (fun _ => place_of) h2
  obtain ⟨ms, rfl, k3⟩ := fits_list (fun _ => mate_of) h3
  obtain ⟨fs, rfl, k4⟩ := fits_list (fun _ => str1_of) h4
  exact ⟨⟨⟨n0, gs, ps⟩, ms, fs⟩, rfl, ⟨k0, k1, k2⟩, k3, k4⟩

theorem event_of {c : List AV} (h : FitsL shEvent c) : ∃ e : Event, c = e.c .bor ∧ e.wf := by
  obtain ⟨_, _, rfl, h0, h⟩ := fitsL_cons h
  obtain ⟨_, _, rfl, h1, h⟩ := fitsL_cons h
  obtain ⟨_, _, rfl, h2, h⟩ := fitsL_cons h
  obtain ⟨_, _, rfl, h3, h⟩ := fitsL_cons h
  obtain ⟨_, _, rfl, h4, h⟩ := fitsL_cons h
  obtain rfl := fitsL_nil h
  obtain ⟨n0, rfl, k0⟩ := fits_int h0
  obtain ⟨n1, rfl, k1⟩ := fits_int h1
  obtain ⟨n2, rfl, k2⟩ := fits_int h2
  obtain ⟨ws, rfl, k3⟩ := fits_list (fun _ => want_of) h3
  obtain ⟨rs, rfl, k4⟩ := fits_list (fun _ => int1_of) h4
  exact ⟨⟨n0, n1, n2, ws, rs⟩, rfl, k0, k1, k2, k3, k4⟩

theorem arg_of_slice {H : Type} {enc : TypeId × Value → H} {P : Program} {num : Nat → Option FuncId} {W : World} {r : Reach} {b0 base : Nat} {spare : Nat → Bool} {held : Bool} {t : TypeId} {v : Value} {d : DataW H} {ps : List MemPlace} {e : TypeId} (ht : P.underlying t = some (.slice e)) {k : Nat} {row : List Sh} (hs : shOf P k t = some [.sl row]) (hval : Value.okWide P W r b0 t v) (hd : DataW.Trod enc P W base spare held t v d ps) :
    ∃ c, Fits (.sl row) c ∧ ArgRel num W v c := by
  obtain ⟨xs, h1, h2, h3⟩ := arg_slice (num := num) ht hs hval hd
  exact ⟨_, by simp only [Fits]; exact ⟨xs, rfl, h2, h3⟩, h1⟩

theorem arg_bool {H : Type} {enc : TypeId × Value → H} {P : Program} {num : Nat → Option FuncId} {W : World} {r : Reach} {b0 base : Nat} {spare : Nat → Bool} {held : Bool} {t : TypeId} {v : Value} {d : DataW H} {ps : List MemPlace} (ht : P.underlying t = some .bool) (hval : Value.okWide P W r b0 t v) (hd : DataW.Trod enc P W base spare held t v d ps) : ∃ b, ArgRel num W v (.bool b) := by
  obtain ⟨b, rfl⟩ := okWide_bool ht hval
  exact ⟨b, .bool b⟩

/-- What a law promises, to the program's own call. -/
theorem tied_lim {P' : Program} {num : Nat → Option FuncId} {fz : List (Nat × Obj)} {p : CProg} (t : Tied P' num fz p) {k : Nat} {f : FuncId} {args : List AV} {r : AV × List (Option AO)} (hn : num k = some f) (h : p.lim k args [] = some r) : Contract P' num fz f args [] r.1 r.2 := by
  obtain ⟨d, hd⟩ := lim_ev.1 h
  exact t.call d k f args [] r.1 r.2 hn (hd d (Nat.le_refl _))
end Go.Proofs.YtndapkimhbngnaaDoor

namespace Go.Proofs.YtndapkimhbngnaaDoor
open Go
set_option linter.unusedSimpArgs false
set_option maxRecDepth 100000

theorem off_le {l : Int} {n : Nat} (h0 : 0 ≤ l) (hn : n ≤ maxLen) (h : 0 ≤ off l n) (hx : l ≤ 1048576) : off l n ≤ l ∧ n ≤ 1048576 := by
  have hm : maxLen = 9223372036854775807 := rfl
  by_cases h2 : IntKind.i64.wrap (l - n) < 0
  · rw [off_neg h2] at h; simp at h
  · rw [off_pos h2] at *
    rw [i64w (by omega) (by omega)] at *
    omega

theorem szWant_le {w : Want} {l : Int} (hw : w.wf) (h0 : 0 ≤ l) (hx : l ≤ 1048576) (h : 0 ≤ szWant w l) : szWant w l ≤ l := by
  unfold szWant offs offs offs at *
  split at h
  · simp at h
  · rename_i h1
    have k1 := off_le h0 hw.copy (by omega) hx
    rw [if_neg h1]
    split at h
    · simp at h
    · rename_i h2
      have k2 := off_le (l := off l w.copy.size) (by omega) hw.hold (by omega) (by omega)
      rw [if_neg h2]
      omega

theorem szRun_le {w : Run} {l : Int} (hw : w.wf) (h0 : 0 ≤ l) (hx : l ≤ 1048576) (h : 0 ≤ szRun w l) : szRun w l ≤ l := by
  unfold szRun at *
  split at h
  · simp at h
  · rename_i h1
    rw [if_neg h1]
    exact szWant_le hw.want h0 hx h

theorem szAsk_le {w : Ask} {l : Int} (hw : w.wf) (h0 : 0 ≤ l) (hx : l ≤ 1048576) (h : 0 ≤ szAsk w l) : szAsk w l ≤ l := by
  unfold szAsk offs offs offs at *
  split at h
  · simp at h
  · rename_i h1
    have k1 := off_le h0 hw.hold (by omega) hx
    rw [if_neg h1]
    split at h
    · simp at h
    · rename_i h2
      have k2 := off_le (l := off l w.hold.size) (by omega) hw.copy (by omega) (by omega)
      rw [if_neg h2]
      omega

theorem szWants_le {ws : List Want} {l : Int} (hw : ListWf Want.wf ws) (h0 : 0 ≤ l) (hx : l ≤ 1048576) (h : 0 ≤ szWants ws l) : szWants ws l ≤ l ∧ ws.length ≤ 1048576 := by
  have go : ∀ (ws : List Want) (l : Int), (∀ w ∈ ws, w.wf) → 0 ≤ l → l ≤ 1048576 → 0 ≤ szWantGo ws l → szWantGo ws l ≤ l := by
    intro ws
    induction ws with
    | nil => intro l _ _ _ _; exact Int.le_refl _
    | cons w r ih =>
      intro l hw h0 hx h
      simp only [szWantGo] at h ⊢
      split at h
      · simp at h
      · rename_i h1
        rw [if_neg h1]
        have k1 := szWant_le (hw w List.mem_cons_self) h0 hx (by omega)
        have := ih _ (fun x hx => hw x (List.mem_cons_of_mem _ hx)) (by omega) (by omega) h
        omega
  unfold szWants at *
  split at h
  · simp at h
  · rename_i h1
    have k1 := off_le h0 hw.len (by omega) hx
    rw [if_neg h1]
    have := go ws _ hw.all (by omega) (by omega) h
    omega

theorem szRuns_le {ws : List Run} {l : Int} (hw : ListWf Run.wf ws) (h0 : 0 ≤ l) (hx : l ≤ 1048576) (h : 0 ≤ szRuns ws l) : szRuns ws l ≤ l ∧ ws.length ≤ 1048576 := by
  have go : ∀ (ws : List Run) (l : Int), (∀ w ∈ ws, w.wf) → 0 ≤ l → l ≤ 1048576 → 0 ≤ szRunGo ws l → szRunGo ws l ≤ l := by
    intro ws
    induction ws with
    | nil => intro l _ _ _ _; exact Int.le_refl _
    | cons w r ih =>
      intro l hw h0 hx h
      simp only [szRunGo] at h ⊢
      split at h
      · simp at h
      · rename_i h1
        rw [if_neg h1]
        have k1 := szRun_le (hw w List.mem_cons_self) h0 hx (by omega)
        have := ih _ (fun x hx => hw x (List.mem_cons_of_mem _ hx)) (by omega) (by omega) h
        omega
  unfold szRuns at *
  split at h
  · simp at h
  · rename_i h1
    have k1 := off_le h0 hw.len (by omega) hx
    rw [if_neg h1]
    have := go ws _ hw.all (by omega) (by omega) h
    omega

theorem szAsks_le {ws : List Ask} {l : Int} (hw : ListWf Ask.wf ws) (h0 : 0 ≤ l) (hx : l ≤ 1048576) (h : 0 ≤ szAsks ws l) : szAsks ws l ≤ l ∧ ws.length ≤ 1048576 := by
  have go : ∀ (ws : List Ask) (l : Int), (∀ w ∈ ws, w.wf) → 0 ≤ l → l ≤ 1048576 → 0 ≤ szAskGo ws l → szAskGo ws l ≤ l := by
    intro ws
    induction ws with
    | nil => intro l _ _ _ _; exact Int.le_refl _
    | cons w r ih =>
      intro l hw h0 hx h
      simp only [szAskGo] at h ⊢
      split at h
      · simp at h
      · rename_i h1
        rw [if_neg h1]
        have k1 := szAsk_le (hw w List.mem_cons_self) h0 hx (by omega)
        have := ih _ (fun x hx => hw x (List.mem_cons_of_mem _ hx)) (by omega) (by omega) h
        omega
  unfold szAsks at *
  split at h
  · simp at h
  · rename_i h1
    have k1 := off_le h0 hw.len (by omega) hx
    rw [if_neg h1]
    have := go ws _ hw.all (by omega) (by omega) h
    omega

/-- One part after another. -/
def szThen (a : Int) (f : Int → Int) : Int := if a < 0 then -1 else f a
def szMate (m : Mate) (l : Int) : Int := szThen (off l m.name.size) fun l => szThen (szWants m.wants l) fun l => szThen (szRuns m.runs l) fun l => szThen (szAsks m.asks l) fun l => szAsks m.gives l

theorem szThen_neg {a : Int} {f : Int → Int} (h : a < 0) : szThen a f = -1 := if_pos h
theorem szThen_pos {a : Int} {f : Int → Int} (h : 0 ≤ a) : szThen a f = f a := if_neg (by omega)

end Go.Proofs.YtndapkimhbngnaaDoor

namespace Go.Proofs.YtndapkimhbngnaaDoor
open Go
set_option linter.unusedSimpArgs false
set_option maxRecDepth 100000

def markWant (k : Int) : Want := ⟨markText (k), up k, markText (up (up k)), up (up (up k)), up (up (up (up k))), up (up (up (up (up k)))), up (up (up (up (up (up k)))))⟩
def marksWant (n : Nat) (k : Int) : List Want := (List.range n).map fun i => markWant (it up7 i k)

def headMkWant (ws : List Want) (k : Int) (i : Nat) : St := hd [(0, .ref 0), (1, .int .i64 (it up7 i k)), (5, .int .i64 i)] [.arr 7 (mixU Want.c ws (marksWant ws.length k) i)] 1

theorem law71 (ws : List Want) (k : Int) (h0 : 0 ≤ k) (hl : ws.length ≤ 1048576) (hk : k ≤ 10000000000000) : F 71 [.ref 0, .int .i64 k] [.arr 7 (ws.map Want.c)] = some (.int .i64 (k + 7 * ws.length), [some (.arr 7 ((marksWant ws.length k).map Want.c))]) := by
  refine F_run fn71 rfl ?_
  have hend := it_up7 h0 hk hl
  simp [c71]
  refine (loop_list ws (fun i (_ : Unit) => headMkWant ws k i) (fun _ _ => True) (fun _ _ _ => (.int .i64 (it up7 ws.length k), [some (.arr 7 ((marksWant ws.length k).map Want.c))])) (fun acc Y _ => ?_) (fun i a r acc Y ha hi hr _ hY => ?_) () ?_ trivial ?_).trans ?_
  · simp [headMkWant, c71b0, mixU_all, marksWant]
  · have hw : up (i : Int) = (i : Int) + 1 := up_is (by omega) (by omega)
    have hmx : ∀ j, j ≤ 11 → it up j (it up7 i k) ≤ 100000000000000 := it_up_le7 h0 hk (by omega)
    have hm0 : it up7 i k ≤ 100000000000000 := hmx 0 (by omega)
    have hm2 : up (up (it up7 i k)) ≤ 100000000000000 := hmx 2 (by omega)
    have hms : (marksWant ws.length k)[i]? = some (markWant (it up7 i k)) := by simp [marksWant, hi]
    have hln := mixU_len Want.c (ws := ws) (ms := marksWant ws.length k) (i := i) (by simp [marksWant]) (by omega)
    have hg := mixU_at Want.c (ms := marksWant ws.length k) ha (by simp [marksWant]) (by rw [hln]; exact hi)
    have hs := mixU_set Want.c (ws := ws) hms (by simp [marksWant])
    simp only [Want.c] at hg
    simp [Want.c, markWant] at hs
    simp [headMkWant, c71b0, hi, hln, hg, up_fold, law96, hm0, hm2]
    rw [hY () _ trivial]
    simp [headMkWant, hw, hs, it, up7]
  · simp [headMkWant, mixU_zero, it]
  · unfold big; omega
  · rw [hend]

def headHlWant (m : Md) (ws : List Want) (k : Int) (i : Nat) : St := hd [(0, .sl m 7 (ws.map Want.c)), (1, .int .i64 (it up7 i k)), (5, .int .i64 i)] [] 0

theorem law127 (n : Nat) (k : Int) (h0 : 0 ≤ k) (hl : n ≤ 1048576) (hk : k ≤ 10000000000000) : F 127 [.sl .bor 7 ((marksWant n k).map Want.c), .int .i64 k] [] = some (.int .i64 (k + 7 * n), []) := by
  refine F_run fn127 rfl ?_
  have hend := it_up7 h0 hk hl
  have hln : (marksWant n k).length = n := by simp [marksWant]
  simp [c127]
  refine (loop_list (marksWant n k) (fun i (_ : Unit) => headHlWant .bor (marksWant n k) k i) (fun _ _ => True) (fun _ _ _ => (.int .i64 (it up7 n k), [])) (fun acc Y _ => ?_) (fun i a r acc Y ha hi hr _ hY => ?_) () ?_ trivial ?_).trans ?_
  · rw [hln]
    simp [headHlWant, c127b0, hln]
  · rw [hln] at hi
    have hw : up (i : Int) = (i : Int) + 1 := up_is (by omega) (by omega)
    have hmx : ∀ j, j ≤ 11 → it up j (it up7 i k) ≤ 100000000000000 := it_up_le7 h0 hk (by omega)
    have hm0 : it up7 i k ≤ 100000000000000 := hmx 0 (by omega)
    have hm2 : up (up (it up7 i k)) ≤ 100000000000000 := hmx 2 (by omega)
    obtain ⟨hi2, hg⟩ := List.getElem?_eq_some_iff.1 ha
    have hms : (marksWant n k)[i]? = some (markWant (it up7 i k)) := by simp [marksWant, hi]
    rw [ha] at hms
    obtain rfl := Option.some.inj hms
    simp [headHlWant, c127b0, hi, hln, hg, up_fold, law96, markWant, hm0, hm2]
    rw [hY () _ trivial]
    simp [headHlWant, hw, it, up7]
  · simp [headHlWant, it]
  · rw [hln]; unfold big; omega
  · rw [hend]


def markAsk (k : Int) : Ask := ⟨markText (k), markText (up k), up (up k), up (up (up k))⟩
def marksAsk (n : Nat) (k : Int) : List Ask := (List.range n).map fun i => markAsk (it up4 i k)

def headMkAsk (ws : List Ask) (k : Int) (i : Nat) : St := hd [(0, .ref 0), (1, .int .i64 (it up4 i k)), (5, .int .i64 i)] [.arr 4 (mixU Ask.c ws (marksAsk ws.length k) i)] 1

def headHlAsk (m : Md) (ws : List Ask) (k : Int) (i : Nat) : St := hd [(0, .sl m 4 (ws.map Ask.c)), (1, .int .i64 (it up4 i k)), (5, .int .i64 i)] [] 0

def markMate (m : Mate) (k : Int) : Mate :=
  { m with
    wants := marksWant m.wants.length k
    runs := marksRun m.runs.length (k + 7 * m.wants.length)
    asks := marksAsk m.asks.length (k + 7 * m.wants.length + 11 * m.runs.length)
    gives := marksAsk m.gives.length (k + 7 * m.wants.length + 11 * m.runs.length + 4 * m.asks.length) }
def markMateK (m : Mate) (k : Int) : Int := k + 7 * m.wants.length + 11 * m.runs.length + 4 * m.asks.length + 4 * m.gives.length

/-- A mate's cells, its lists being the arrays from n on. -/
def Mate.refs (n : Nat) (x : Mate) : List AV := [.str x.name, .bool x.up, .int .i64 x.clock, .bool x.known, .int .i64 x.seen, .ref n, .ref (n + 1), .ref (n + 2), .ref (n + 3)]
def Mate.arrs (x : Mate) : List AO := [.arr 7 (x.wants.map Want.c), .arr 11 (x.runs.map Run.c), .arr 4 (x.asks.map Ask.c), .arr 4 (x.gives.map Ask.c)]

theorem markMateK_pos {m : Mate} {k : Int} (h : 0 ≤ k) : ¬ (markMateK m k < 0) := by unfold markMateK; omega
end Go.Proofs.YtndapkimhbngnaaDoor

namespace Go.Proofs.YtndapkimhbngnaaDoor
open Go
set_option linter.unusedSimpArgs false
set_option maxRecDepth 100000

structure Parcel.small (p : Parcel) : Prop where
  wants : p.wants.length ≤ 1048576

theorem law63 (p : Parcel) (hp : p.small) : F 63 [.agg (p.c .bor), .agg (p.c .bor)] [] = some (.bool true, []) := by
  refine F_run fn63 rfl ?_
  have := hp.wants
  simp [c63, law5 p.wants (by unfold big; omega)]

theorem law62 (p : Parcel) (k : Int) (hp : p.small) (h0 : 0 ≤ k) (hk : k ≤ 10000000000) : F 62 [.agg [.int .i64 p.kind, .str p.berth, .int .i64 p.seen, .ref 0, .str p.hold, .str p.copy, .int .i64 p.at_], .int .i64 k] [.arr 7 (p.wants.map Want.c)] = some (.int .i64 (k + 7 * p.wants.length), [some (.arr 7 ((marksWant p.wants.length k).map Want.c))]) := by
  refine F_run fn62 rfl ?_
  have w1 := law71 p.wants k h0 hp.wants (by omega)
  simp [c62, w1]
end Go.Proofs.YtndapkimhbngnaaDoor

namespace Go.Proofs.YtndapkimhbngnaaDoor
open Go
set_option linter.unusedSimpArgs false
set_option maxRecDepth 100000

structure Code (bs : List Int) : Prop where
  len : bs.length ≤ 2000
  byte : ∀ b ∈ bs, 0 ≤ b ∧ b ≤ 255

/-- The reader's variable. -/
def rdBox (bs : List Int) (p : Int) : AO := .box [.sl .imm 1 (bs.map rowB), .int .i64 p]

noncomputable def pickV (bs : List Int) (p n : Int) : Int := match F 89 [.ptr 0 0 0, .int .i64 n] [rdBox bs p] with
  | some (.int .i64 r, _) => r
  | _ => 0

theorem xor_le {a b : Int} (h1 : 0 ≤ a) (h2 : a < 9223372036854775808) (h3 : 0 ≤ b) (h4 : b < 9223372036854775808) :
    ∃ r : Int, IntKind.i64.wrap (((a % 2 ^ IntKind.i64.bits).toNat ^^^ (b % 2 ^ IntKind.i64.bits).toNat : Nat) : Int) = r ∧ 0 ≤ r ∧ r < 9223372036854775808 := by
  obtain ⟨x, rfl⟩ : ∃ x : Nat, a = x := ⟨a.toNat, by omega⟩
  obtain ⟨y, rfl⟩ : ∃ y : Nat, b = y := ⟨b.toNat, by omega⟩
  have e1 : ((x : Int) % 2 ^ IntKind.i64.bits).toNat = x := by simp [IntKind.bits]; omega
  have e2 : ((y : Int) % 2 ^ IntKind.i64.bits).toNat = y := by simp [IntKind.bits]; omega
  have h := Nat.xor_lt_two_pow (x := x) (y := y) (n := 63) (by omega) (by omega)
  refine ⟨((x ^^^ y : Nat) : Int), ?_, by omega, by omega⟩
  rw [e1, e2]
  exact i64w (by omega) (by omega)

theorem tmod_in {x n : Int} (hx : 0 ≤ x) (hn : 1 ≤ n) : 0 ≤ x.tmod n ∧ x.tmod n < n := by
  rw [Int.tmod_eq_emod_of_nonneg hx]
  exact ⟨Int.emod_nonneg _ (by omega), Int.emod_lt_of_pos _ (by omega)⟩

end Go.Proofs.YtndapkimhbngnaaDoor

namespace Go.Proofs.YtndapkimhbngnaaDoor
open Go
set_option linter.unusedSimpArgs false
set_option maxRecDepth 100000

def grantOk (t : Int) (g : Grant) : Bool := isHold g.hold && (isName g.berth && (isName g.copy && (inR g.at_ 0 1000000 && inR g.til 0 (IntKind.i64.wrap (t + 32)))))
def ascG (pre : List Grant) (g : Grant) : Bool :=
  match pre.getLast? with
  | none => true
  | some p => sLt p.hold g.hold
def grantsGo (t : Int) (pre : List Grant) : List Grant → Bool
  | [] => true
  | g :: r => grantOk t g && (ascG pre g && grantsGo t (pre ++ [g]) r)
def ascP (pre : List Place) (p : Place) : Bool :=
  match pre.getLast? with
  | none => true
  | some q => sLt q.berth p.berth
def heldIn (pre : List Place) (k : T) : Bool := heldB (pre.flatMap Place.wants) k
def freshP (pre : List Place) (p : Place) : Bool := p.wants.all fun w => sEq w.hold ⟨#[]⟩ || !heldIn pre w.hold
def placeOk (p : Place) : Bool := isName p.berth && (inR p.seen 1 1000000 && wantsOk p.wants)
def placesGo (pre : List Place) : List Place → Bool
  | [] => true
  | p :: r => placeOk p && (ascP pre p && (freshP pre p && placesGo (pre ++ [p]) r))
def landOk (l : Land) : Bool :=
  inR l.time 0 2000000 && (decide (l.time.tmod 2 = 0) && (decide (l.grants.length ≤ 40) && (decide (l.places.length ≤ 4) && (grantsGo l.time [] l.grants && placesGo [] l.places))))

structure Place.small (p : Place) : Prop where
  wants : p.wants.length ≤ 1048576
structure Land.small (l : Land) : Prop where
  grants : l.grants.length ≤ 1048576
  places : l.places.length ≤ 1048576
  each : ∀ p ∈ l.places, p.small

/-- In wants that are ok no hold comes twice. -/
theorem wantsGo_fresh : ∀ (r pre : List Want), wantsGo pre r = true → ∀ j w, r[j]? = some w → freshW (pre ++ r.take j) w = true
  | [], _, _, j, w, h => by simp at h
  | a :: r, pre, hg, j, w, h => by
    simp only [wantsGo, Bool.and_eq_true] at hg
    cases j with
    | zero => simp at h; subst h; simpa using hg.2.2.1
    | succ j =>
      have := wantsGo_fresh r (pre ++ [a]) hg.2.2.2 j w (by simpa using h)
      simpa using this

theorem wantsOk_fresh {ws : List Want} (h : wantsOk ws = true) {j : Nat} {w : Want} (hw : ws[j]? = some w) (hne : sEq w.hold ⟨#[]⟩ = false) : heldB (ws.take j) w.hold = false := by
  unfold wantsOk at h
  rw [Bool.and_eq_true] at h
  have := wantsGo_fresh ws [] h.2 j w hw
  simp only [List.nil_append, freshW, hne, Bool.false_or, Bool.not_eq_true'] at this
  exact this

theorem heldB_append (a b : List Want) (k : T) : heldB (a ++ b) k = (heldB a k || heldB b k) := by simp [heldB]
theorem heldMap_append (a b : List Want) : heldMap (a ++ b) = b.foldl (fun m w => mapPut w.hold (.bool true) m) (heldMap a) := by simp [heldMap]

def head23g (l : Land) (m : Md) (i : Nat) : St := hd [(1, .ptr 0 0 0), (33, .sl .bor 5 (l.grants.map Grant.c)), (34, .int .i64 l.grants.length), (35, .int .i64 i)] [.box (l.c .bor m)] 0
def head23p (l : Land) (m : Md) (i : Nat) : St := hd [(1, .ptr 0 0 0), (5, .mapr 1), (90, .sl .bor 3 (l.places.map (Place.c m))), (91, .int .i64 l.places.length), (92, .int .i64 i)]
  [.box (l.c .bor m), .map false (heldMap ((l.places.take i).flatMap Place.wants))] 0
def head23w (l : Land) (m : Md) (i : Nat) (ws : List Want) (j : Nat) : St := hd [(1, .ptr 0 0 0), (5, .mapr 1), (90, .sl .bor 3 (l.places.map (Place.c m))), (91, .int .i64 l.places.length), (92, .int .i64 i), (130, .sl .bor 7 (ws.map Want.c)), (131, .int .i64 ws.length), (132, .int .i64 j)]
  [.box (l.c .bor m), .map false (heldMap ((l.places.take i).flatMap Place.wants ++ ws.take j))] 0

def cw (w x : Want) : Bool := !sEq w.hold ⟨#[]⟩ && sEq w.hold x.hold
theorem freshP_any (pre : List Place) (p : Place) : (!(pre.any fun q => p.wants.any fun w => q.wants.any (cw w))) = freshP pre p := by
  rw [Bool.eq_iff_iff, Bool.not_eq_true', List.any_eq_false]
  unfold freshP
  rw [List.all_eq_true]
  constructor
  · intro h w hw
    cases h1 : sEq w.hold ⟨#[]⟩
    · simp only [Bool.false_or, Bool.not_eq_true', heldIn, heldB, List.any_eq_false, List.mem_flatMap]
      rintro x ⟨q, hq, hx⟩ h2
      apply h q hq
      rw [List.any_eq_true]
      refine ⟨w, hw, ?_⟩
      rw [List.any_eq_true]
      exact ⟨x, hx, by simp [cw, h1]; rw [sEq_comm]; exact h2⟩
    · rfl
  · intro h q hq h2
    obtain ⟨w, hw, h3⟩ := List.any_eq_true.1 h2
    obtain ⟨x, hx, h4⟩ := List.any_eq_true.1 h3
    simp only [cw, Bool.and_eq_true, Bool.not_eq_true'] at h4
    have h5 := h w hw
    rw [h4.1] at h5
    simp only [Bool.false_or, Bool.not_eq_true', heldIn, heldB, List.any_eq_false, List.mem_flatMap] at h5
    exact h5 x ⟨q, hq, hx⟩ (by rw [sEq_comm]; exact h4.2)

def head99 (ps : List Place) (m : Md) (i : Nat) : St := hd [(0, .sl .bor 3 (ps.map (Place.c m))), (3, .int .i64 i)] [] 0
def head99k (ps : List Place) (m : Md) (i : Nat) (p : Place) (k : Nat) : St := hd [(0, .sl .bor 3 (ps.map (Place.c m))), (3, .int .i64 i), (4, .ptr 0 0 0), (5, .int .i64 k)] [.box (p.c .bor)] 0
def head99j (ps : List Place) (m : Md) (i : Nat) (p : Place) (k j : Nat) : St := hd [(0, .sl .bor 3 (ps.map (Place.c m))), (3, .int .i64 i), (4, .ptr 0 0 0), (5, .int .i64 k), (6, .int .i64 j)] [.box (p.c .bor)] 0
def head99n (ps : List Place) (m : Md) (i : Nat) (p : Place) (k j n : Nat) : St := hd [(0, .sl .bor 3 (ps.map (Place.c m))), (3, .int .i64 i), (4, .ptr 0 0 0), (5, .int .i64 k), (6, .int .i64 j), (7, .int .i64 n)] [.box (p.c .bor)] 0

def head24 (l : Land) (m : Md) (i : Nat) : St := hd [(1, .ptr 0 0 0), (3, .int .i64 i)] [.box (l.c .bor m)] 0

theorem prevOr {α : Type} {xs : List α} {i : Nat} (hi : i < xs.length) (hm : xs.length ≤ 9223372036854775807) : (¬ 0 < i ∧ (xs.take i).getLast? = none) ∨ ∃ j : Nat, 0 < i ∧ IntKind.i64.wrap ((i : Int) - 1) = (j : Int) ∧ ∃ h : j < xs.length, (xs.take i).getLast? = some (xs[j]'h) := by
  by_cases hz : i = 0
  · left; exact ⟨by omega, by rw [hz]; rfl⟩
  · right; exact prev hi hm hz

end Go.Proofs.YtndapkimhbngnaaDoor

namespace Go.Proofs.YtndapkimhbngnaaDoor
open Go
set_option linter.unusedSimpArgs false
set_option maxRecDepth 100000

def ascM (pre : List Mate) (m : Mate) : Bool :=
  match pre.getLast? with
  | none => true
  | some p => sLt p.name m.name
def matesGo (pre : List Mate) : List Mate → Bool
  | [] => true
  | m :: r => mateValid m && (ascM pre m && matesGo (pre ++ [m]) r)
def worldOk (w : Wld) : Bool := landOk w.land && (decide (1 ≤ w.mates.length) && (decide (w.mates.length ≤ 4) && (decide (w.flight.length ≤ 300) && matesGo [] w.mates)))

structure Wld.small (w : Wld) : Prop where
  land : w.land.small
  mates : w.mates.length ≤ 1048576
  each : ∀ m ∈ w.mates, m.small
  flight : w.flight.length ≤ 1048576

def head57 (w : Wld) (mm : Md) (i : Nat) : St := hd [(1, .ptr 0 0 0), (28, .sl .bor 9 (w.mates.map (Mate.c mm))), (29, .int .i64 w.mates.length), (30, .int .i64 i)] [.box (w.c .bor mm)] 0

def head58 (w : Wld) (mm : Md) (i : Nat) : St := hd [(1, .ptr 0 0 0), (3, .int .i64 i)] [.box (w.c .bor mm)] 0

end Go.Proofs.YtndapkimhbngnaaDoor

namespace Go.Proofs.YtndapkimhbngnaaDoor
open Go
set_option linter.unusedSimpArgs false
set_option maxRecDepth 100000

/-- The machine's watchdog, on one run. -/
def wd (c : Int) (r : Run) : Run := if alive r && !leased r c then { r with state := 2, left := 0 } else r

/-- An array of the call's own that is filled from nothing: nil at first. -/
def ownV (sz : Nat) (xs : List (List AV)) : AV := match xs with
  | [] => .sl .own sz []
  | _ => .ref 0
def ownH (sz : Nat) (xs : List (List AV)) : List AO := match xs with
  | [] => []
  | xs => [.arr sz xs]
@[simp] theorem ownV_nil (sz : Nat) : ownV sz [] = .sl .own sz [] := rfl
@[simp] theorem ownH_nil (sz : Nat) : ownH sz [] = [] := rfl
@[simp] theorem ownV_cons (sz : Nat) (x : List AV) (xs : List (List AV)) : ownV sz (x :: xs) = .ref 0 := rfl
@[simp] theorem ownH_cons (sz : Nat) (x : List AV) (xs : List (List AV)) : ownH sz (x :: xs) = [.arr sz (x :: xs)] := rfl
@[simp] theorem ownV_snoc (sz : Nat) (x : List AV) (xs : List (List AV)) : ownV sz (xs ++ [x]) = .ref 0 := by cases xs <;> rfl
@[simp] theorem ownH_snoc (sz : Nat) (x : List AV) (xs : List (List AV)) : ownH sz (xs ++ [x]) = [.arr sz (xs ++ [x])] := by cases xs <;> rfl

def head18 (rs : List Run) (c : Int) (i : Nat) (acc : List Run) : St := hd [(1, .int .i64 c), (5, ownV 11 (acc.map Run.c)), (8, .sl .bor 11 (rs.map Run.c)), (9, .int .i64 rs.length), (10, .int .i64 i)] (ownH 11 (acc.map Run.c)) 0

def head20 (rs : List Run) (c : Int) (i : Nat) (acc : List Run) : St := hd [(0, .sl .bor 11 (rs.map Run.c)), (1, .int .i64 c), (5, .ref 0), (6, .int .i64 i)] [.arr 11 (acc.map Run.c)] 0

end Go.Proofs.YtndapkimhbngnaaDoor

namespace Go.Proofs.YtndapkimhbngnaaDoor
open Go
set_option linter.unusedSimpArgs false
set_option maxRecDepth 100000

@[simp] theorem plain_want (ws : List Want) : rowsPlain (ws.map Want.c) = true := by simp [rowsPlain]
@[simp] theorem plain_run (ws : List Run) : rowsPlain (ws.map Run.c) = true := by simp [rowsPlain]
@[simp] theorem plain_ask (ws : List Ask) : rowsPlain (ws.map Ask.c) = true := by simp [rowsPlain]
@[simp] theorem plain_grant (ws : List Grant) : rowsPlain (ws.map Grant.c) = true := by simp [rowsPlain]
@[simp] theorem plain_text (ws : List T) : rowsPlain (ws.map fun s => [.str s]) = true := by simp [rowsPlain]

def Mate.zero : Mate := ⟨⟨#[]⟩, false, 0, false, 0, [], [], [], []⟩

def mateRise (m : Mate) : Mate := if mateValid m then { m with up := m.up || decide (m.clock < 1000000) } else .zero

theorem valid_clock {m : Mate} (h : mateValid m = true) : 0 ≤ m.clock ∧ m.clock ≤ 1000000 := by
  unfold mateValid mateParts at h
  simp only [Bool.and_eq_true] at h
  have := h.1.2.1
  simpa [inR] using this

/-- What is left of a run behind a fall. -/
def fallRun (machine : Bool) (r : Run) : Option Run :=
  if alive r then (if machine then (if sEq r.want.hold ⟨#[]⟩ then none else some { r with state := 2, left := 0 }) else some r) else none
def mateFall (m : Mate) (machine : Bool) : Mate := if mateValid m then { Mate.zero with name := m.name, clock := m.clock, runs := m.runs.filterMap (fallRun machine) } else .zero

def ownVi (id sz : Nat) (xs : List (List AV)) : AV := match xs with
  | [] => .sl .own sz []
  | _ => .ref id
@[simp] theorem ownVi_nil (id sz : Nat) : ownVi id sz [] = .sl .own sz [] := rfl
@[simp] theorem ownVi_cons (id sz : Nat) (x : List AV) (xs : List (List AV)) : ownVi id sz (x :: xs) = .ref id := rfl
@[simp] theorem ownVi_snoc (id sz : Nat) (x : List AV) (xs : List (List AV)) : ownVi id sz (xs ++ [x]) = .ref id := by cases xs <;> rfl

def zeroCells : List AV := [.str ⟨#[]⟩, .bool false, .int .i64 0, .bool false, .int .i64 0, .sl .own 7 [], .sl .own 11 [], .sl .own 4 [], .sl .own 4 []]
def fallCells (m : Mate) (acc : List Run) : List AV := [.str m.name, .bool false, .int .i64 m.clock, .bool false, .int .i64 0, .sl .own 7 [], ownVi 2 11 (acc.map Run.c), .sl .own 4 [], .sl .own 4 []]

def head36 (m : Mate) (b : Bool) (i : Nat) (acc : List Run) : St := hd [(1, .bool b), (4, .ptr 0 0 0), (5, .ptr 1 0 0), (18, .sl .bor 11 (m.runs.map Run.c)), (19, .int .i64 m.runs.length), (20, .int .i64 i)] (.box zeroCells :: .box (fallCells m acc) :: ownH 11 (acc.map Run.c)) 0

def fallCells3 (m : Mate) (acc : List Run) : List AV := [.str m.name, .bool false, .int .i64 m.clock, .bool false, .int .i64 0, .sl .own 7 [], ownVi 3 11 (acc.map Run.c), .sl .own 4 [], .sl .own 4 []]
def head32 (m : Mate) (b : Bool) (i : Nat) (acc : List Run) : St := hd [(1, .bool b), (2, .ptr 0 0 0), (4, .ptr 1 0 0), (5, .ptr 2 0 0), (6, .int .i64 i)] (.box (m.c .bor) :: .box zeroCells :: .box (fallCells3 m acc) :: ownH 11 (acc.map Run.c)) 0

theorem filterMap_len {α β : Type} (f : α → Option β) : ∀ xs : List α, (xs.filterMap f).length ≤ xs.length := fun xs => List.length_filterMap_le f xs

end Go.Proofs.YtndapkimhbngnaaDoor

namespace Go.Proofs.YtndapkimhbngnaaDoor
open Go
set_option linter.unusedSimpArgs false
set_option maxRecDepth 100000

def eqWant (a b : Want) : Bool := sEq a.copy b.copy && (a.version == b.version && (sEq a.hold b.hold && (a.pull == b.pull && (a.start == b.start && (a.dies == b.dies && a.grace == b.grace)))))
theorem eqWant_iff (a b : Want) : eqWant a b = true ↔ a = b := by
  cases a; cases b
  simp [eqWant, sEq_iff]

@[simp] theorem eqCells_want (s1 : T) (n1 : Int) (h1 : T) (p1 q1 d1 g1 : Int) (s2 : T) (n2 : Int) (h2 : T) (p2 q2 d2 g2 : Int) :
    eqCells [.s, .i, .s, .i, .i, .i, .i] [.str s1, .int .i64 n1, .str h1, .int .i64 p1, .int .i64 q1, .int .i64 d1, .int .i64 g1] [.str s2, .int .i64 n2, .str h2, .int .i64 p2, .int .i64 q2, .int .i64 d2, .int .i64 g2] =
      some (eqWant ⟨s1, n1, h1, p1, q1, d1, g1⟩ ⟨s2, n2, h2, p2, q2, d2, g2⟩) := by
  simp only [eqCells, eqCell, eqWant, if_true, List.length_cons, List.length_nil, and_self]
  cases sEq s1 s2 <;> simp only [Bool.false_and, Bool.true_and]
  cases n1 == n2 <;> simp only [Bool.false_and, Bool.true_and]
  cases sEq h1 h2 <;> simp only [Bool.false_and, Bool.true_and]
  cases p1 == p2 <;> simp only [Bool.false_and, Bool.true_and]
  cases q1 == q2 <;> simp only [Bool.false_and, Bool.true_and]
  cases d1 == d2 <;> simp only [Bool.false_and, Bool.true_and]
  cases g1 == g2 <;> rfl

def sameGo : List Want → List Want → Bool
  | a :: as, b :: bs => eqWant a b && sameGo as bs
  | _, _ => true
def sameWants (a b : List Want) : Bool := decide (a.length = b.length) && sameGo a b

def head138 (a b : List Want) (i : Nat) : St := hd [(0, .sl .bor 7 (a.map Want.c)), (1, .sl .bor 7 (b.map Want.c)), (5, .int .i64 i)] [] 0

/-- What a berth is to run: of the last place of its name. -/
def wantsFor (name : T) (acc : List Want) : List Place → List Want
  | [] => acc
  | p :: r => wantsFor name (if sEq p.berth name then p.wants else acc) r
def runsAre : List Run → List Want → Bool
  | r :: rs, w :: ws => eqWant r.want w && (r.state == 4 && runsAre rs ws)
  | _, _ => true
def settledRuns (up : Bool) (rs : List Run) (ws : List Want) : Bool := up && (decide (rs.length = ws.length) && runsAre rs ws)
def settledMate (ps : List Place) (m : Mate) : Bool := settledRuns m.up m.runs (wantsFor m.name [] ps)
def settled (w : Wld) : Bool := worldOk w && w.mates.all (settledMate w.land.places)

def wantV (acc : Option (List Want)) : AV := match acc with
  | none => .sl .own 7 []
  | some ws => .sl .bor 7 (ws.map Want.c)

def head68m (w : Wld) (mm : Md) (i : Nat) : St := hd [(1, .ptr 0 0 0), (14, .sl .bor 9 (w.mates.map (Mate.c mm))), (15, .int .i64 w.mates.length), (16, .int .i64 i)] [.box (w.c .bor mm)] 0
def head68p (w : Wld) (mm : Md) (i : Nat) (m : Mate) (j : Nat) (acc : Option (List Want)) : St := hd [(1, .ptr 0 0 0), (4, .ptr 1 0 0), (5, wantV acc), (14, .sl .bor 9 (w.mates.map (Mate.c mm))), (15, .int .i64 w.mates.length), (16, .int .i64 i), (22, .sl .bor 3 (w.land.places.map (Place.c mm))), (23, .int .i64 w.land.places.length), (24, .int .i64 j)] [.box (w.c .bor mm), .box (m.c .bor)] 0
def head68r (w : Wld) (mm : Md) (i : Nat) (m : Mate) (ws : List Want) (j : Nat) : St := hd [(1, .ptr 0 0 0), (5, .sl .bor 7 (ws.map Want.c)), (14, .sl .bor 9 (w.mates.map (Mate.c mm))), (15, .int .i64 w.mates.length), (16, .int .i64 i), (48, .sl .bor 11 (m.runs.map Run.c)), (49, .int .i64 m.runs.length), (50, .int .i64 j)] [.box (w.c .bor mm)] 0
def head68e (w : Wld) (mm : Md) (i : Nat) : St := hd [(1, .ptr 0 0 0), (5, .sl .own 7 []), (14, .sl .bor 9 (w.mates.map (Mate.c mm))), (15, .int .i64 w.mates.length), (16, .int .i64 i), (48, .sl .bor 11 []), (49, .int .i64 0), (50, .int .i64 0)] [.box (w.c .bor mm)] 0

theorem runsAre_same : ∀ (rs : List Run) (ws : List Want), rs.length = ws.length → (rs.all (fun r => r.state == 4) && sameGo (rs.map Run.want) ws) = runsAre rs ws
  | [], [], _ => rfl
  | r :: rs, w :: ws, h => by
    have ih := runsAre_same rs ws (by simpa using h)
    simp only [List.all_cons, List.map_cons, sameGo, runsAre, ← ih]
    cases r.state == 4 <;> cases eqWant r.want w <;> cases rs.all (fun r => r.state == 4) <;> rfl
  | [], _ :: _, h => by simp at h
  | _ :: _, [], h => by simp at h

theorem settled_same (up : Bool) (rs : List Run) (ws : List Want) : (rs.all (fun r => r.state == 4) && (up && sameWants (rs.map Run.want) ws)) = settledRuns up rs ws := by
  unfold sameWants settledRuns
  rw [List.length_map]
  by_cases h : rs.length = ws.length
  · rw [← runsAre_same rs ws h]
    cases up <;> simp [h]
  · cases up <;> simp [h]

def head69m (w : Wld) (mm : Md) (i : Nat) : St := hd [(1, .ptr 0 0 0), (3, .int .i64 i)] [.box (w.c .bor mm)] 0
def wantV2 (acc : Option (List Want)) : AV := match acc with
  | none => .ref 2
  | some ws => .sl .bor 7 (ws.map Want.c)
def wantH2 (acc : Option (List Want)) : List AO := match acc with
  | none => [.arr 7 []]
  | some _ => []
def haveV (acc : Option (List Want)) : AV := match acc with
  | none => .ref 3
  | some _ => .ref 2
def head69p (w : Wld) (mm : Md) (i : Nat) (m : Mate) (j : Nat) (acc : Option (List Want)) : St := hd [(1, .ptr 0 0 0), (3, .int .i64 i), (4, .ptr 1 0 0), (5, wantV2 acc), (6, .int .i64 j)] (.box (w.c .bor mm) :: .box (m.c .bor) :: wantH2 acc) 0
def head69r (w : Wld) (mm : Md) (i : Nat) (m : Mate) (j : Nat) (acc : Option (List Want)) (hv : List Want) : St := hd [(1, .ptr 0 0 0), (3, .int .i64 i), (4, .ptr 1 0 0), (5, wantV2 acc), (7, haveV acc), (8, .int .i64 j)] (.box (w.c .bor mm) :: .box (m.c .bor) :: (wantH2 acc ++ [.arr 7 (hv.map Want.c)])) 0

end Go.Proofs.YtndapkimhbngnaaDoor

namespace Go.Proofs.YtndapkimhbngnaaDoor
open Go
set_option linter.unusedSimpArgs false
set_option maxRecDepth 100000

def Run.zero : Run := ⟨⟨⟨#[]⟩, 0, ⟨#[]⟩, 0, 0, 0, 0⟩, 0, 0, 0, 0⟩
def beginR (r : Run) (clock : Int) : Run := if leased r clock then { r with state := 3, left := r.want.start } else { r with state := 2, left := 0 }
def fallsUp (n : Int) : Int := if n < 1000 then n + 1 else n
def leftOf (f : Int) : Int := if 4 ≤ f then 16 else if f ≤ 0 then 1 else if f = 1 then 2 else if f = 2 then 4 else 8
def dies (r : Run) : Run := { r with falls := fallsUp r.falls, state := 5, left := leftOf (fallsUp r.falls) }
def mateLive (r : Run) (w : Want) (wanted : Bool) (clock : Int) : Option Run :=
  if (!wanted || !eqWant w r.want) && r.state != 6 then (if alive r then some { r with state := 6, left := r.want.grace } else none)
  else if r.state ≠ 2 ∧ 1 < r.left then some { r with left := r.left - 1 }
  else if r.state = 3 then some { r with state := 4, left := r.want.dies }
  else if r.state = 4 then (if r.left = 1 then some (dies r) else some r)
  else if r.state = 6 then none
  else if r.state = 1 ∨ r.state = 2 ∨ r.state = 5 then some (beginR r clock)
  else some r

def liveRes (r : Run) (w : Want) (wanted : Bool) (clock : Int) : AV := .tup [.agg ((mateLive r w wanted clock).getD .zero).c, .bool (mateLive r w wanted clock).isSome]

def head93 (r : Run) (f : Int) (i : Nat) : St := hd [(1, .ptr 0 0 0), (2, .ptr 1 0 0), (3, .int .i64 i)] [.box ({ r with state := 5, left := 2 ^ i, falls := f } : Run).c, .box Run.zero.c] 0

theorem leftOf_stop {f : Int} {i : Nat} (hi : i ≤ 4) (h1 : (i : Int) ≤ f ∨ i = 0) (h2 : ¬ ((i : Int) < f) ∨ i = 4) : (2 : Int) ^ i = leftOf f := by
  unfold leftOf
  rcases i with _ | _ | _ | _ | _ | i
  · have : f ≤ 0 := by omega
    rw [if_neg (by omega), if_pos this]; rfl
  · have : f = 1 := by omega
    subst this; rfl
  · have : f = 2 := by omega
    subst this; rfl
  · have : f = 3 := by omega
    subst this; rfl
  · rw [if_pos (by omega)]; rfl
  · omega

theorem shlLeft {f : Int} (h : f < 4) : IntKind.i64.wrap (2 ^ min (if f < 0 then (0 : Int) else f).toNat IntKind.i64.bits) = leftOf f := by
  unfold leftOf
  rw [if_neg (show ¬ 4 ≤ f by omega)]
  by_cases h0 : f ≤ 0
  · rw [if_pos (show f ≤ 0 from h0)]
    have : (if f < 0 then (0 : Int) else f) = 0 := by split <;> omega
    rw [this]; rfl
  rw [if_neg (show ¬ f ≤ 0 from h0), if_neg (show ¬ f < 0 by omega)]
  by_cases h1 : f = 1
  · subst h1; rfl
  by_cases h2 : f = 2
  · subst h2; rfl
  have h3 : f = 3 := by omega
  subst h3; rfl

end Go.Proofs.YtndapkimhbngnaaDoor

namespace Go.Proofs.YtndapkimhbngnaaDoor
open Go
set_option linter.unusedSimpArgs false
set_option maxRecDepth 100000

/-- One of some. -/
def selT (l : List T) (i : Int) : T := l.getD i.toNat ⟨#[]⟩
def selI (l : List Int) (i : Int) : Int := l.getD i.toNat 0

theorem toNat_cases {i : Int} {n : Nat} (h0 : 0 ≤ i) (h : i < n) : ∃ k : Nat, i = k ∧ k < n := ⟨i.toNat, by omega, by omega⟩

@[simp] theorem selT2 (a b : T) {i : Int} (h : i.toNat < [[AV.str a], [.str b]].length) : [[AV.str a], [.str b]][i.toNat]'h = [.str (selT [a, b] i)] := by
  unfold selT
  generalize i.toNat = k at h ⊢
  rcases k with _ | _ | k <;> first | rfl | (simp at h; omega)
@[simp] theorem selI2 (a b : Int) {i : Int} (h : i.toNat < [[AV.int .i64 a], [.int .i64 b]].length) : [[AV.int .i64 a], [.int .i64 b]][i.toNat]'h = [.int .i64 (selI [a, b] i)] := by
  unfold selI
  generalize i.toNat = k at h ⊢
  rcases k with _ | _ | k <;> first | rfl | (simp at h; omega)
@[simp] theorem selT3 (a b c : T) {i : Int} (h : i.toNat < [[AV.str a], [.str b], [.str c]].length) : [[AV.str a], [.str b], [.str c]][i.toNat]'h = [.str (selT [a, b, c] i)] := by
  unfold selT
  generalize i.toNat = k at h ⊢
  rcases k with _ | _ | _ | k <;> first | rfl | (simp at h; omega)
@[simp] theorem selI3 (a b c : Int) {i : Int} (h : i.toNat < [[AV.int .i64 a], [.int .i64 b], [.int .i64 c]].length) : [[AV.int .i64 a], [.int .i64 b], [.int .i64 c]][i.toNat]'h = [.int .i64 (selI [a, b, c] i)] := by
  unfold selI
  generalize i.toNat = k at h ⊢
  rcases k with _ | _ | _ | k <;> first | rfl | (simp at h; omega)
@[simp] theorem selT4 (a b c d : T) {i : Int} (h : i.toNat < [[AV.str a], [.str b], [.str c], [.str d]].length) : [[AV.str a], [.str b], [.str c], [.str d]][i.toNat]'h = [.str (selT [a, b, c, d] i)] := by
  unfold selT
  generalize i.toNat = k at h ⊢
  rcases k with _ | _ | _ | _ | k <;> first | rfl | (simp at h; omega)
@[simp] theorem selI4 (a b c d : Int) {i : Int} (h : i.toNat < [[AV.int .i64 a], [.int .i64 b], [.int .i64 c], [.int .i64 d]].length) : [[AV.int .i64 a], [.int .i64 b], [.int .i64 c], [.int .i64 d]][i.toNat]'h = [.int .i64 (selI [a, b, c, d] i)] := by
  unfold selI
  generalize i.toNat = k at h ⊢
  rcases k with _ | _ | _ | _ | k <;> first | rfl | (simp at h; omega)
@[simp] theorem selT5 (a b c d e : T) {i : Int} (h : i.toNat < [[AV.str a], [.str b], [.str c], [.str d], [.str e]].length) : [[AV.str a], [.str b], [.str c], [.str d], [.str e]][i.toNat]'h = [.str (selT [a, b, c, d, e] i)] := by
  unfold selT
  generalize i.toNat = k at h ⊢
  rcases k with _ | _ | _ | _ | _ | k <;> first | rfl | (simp at h; omega)
@[simp] theorem selI5 (a b c d e : Int) {i : Int} (h : i.toNat < [[AV.int .i64 a], [.int .i64 b], [.int .i64 c], [.int .i64 d], [.int .i64 e]].length) : [[AV.int .i64 a], [.int .i64 b], [.int .i64 c], [.int .i64 d], [.int .i64 e]][i.toNat]'h = [.int .i64 (selI [a, b, c, d, e] i)] := by
  unfold selI
  generalize i.toNat = k at h ⊢
  rcases k with _ | _ | _ | _ | _ | k <;> first | rfl | (simp at h; omega)
@[simp] theorem selT6 (a b c d e f : T) {i : Int} (h : i.toNat < [[AV.str a], [.str b], [.str c], [.str d], [.str e], [.str f]].length) : [[AV.str a], [.str b], [.str c], [.str d], [.str e], [.str f]][i.toNat]'h = [.str (selT [a, b, c, d, e, f] i)] := by
  unfold selT
  generalize i.toNat = k at h ⊢
  rcases k with _ | _ | _ | _ | _ | _ | k <;> first | rfl | (simp at h; omega)
@[simp] theorem selI6 (a b c d e f : Int) {i : Int} (h : i.toNat < [[AV.int .i64 a], [.int .i64 b], [.int .i64 c], [.int .i64 d], [.int .i64 e], [.int .i64 f]].length) : [[AV.int .i64 a], [.int .i64 b], [.int .i64 c], [.int .i64 d], [.int .i64 e], [.int .i64 f]][i.toNat]'h = [.int .i64 (selI [a, b, c, d, e, f] i)] := by
  unfold selI
  generalize i.toNat = k at h ⊢
  rcases k with _ | _ | _ | _ | _ | _ | k <;> first | rfl | (simp at h; omega)
@[simp] theorem selT7 (a b c d e f g : T) {i : Int} (h : i.toNat < [[AV.str a], [.str b], [.str c], [.str d], [.str e], [.str f], [.str g]].length) : [[AV.str a], [.str b], [.str c], [.str d], [.str e], [.str f], [.str g]][i.toNat]'h = [.str (selT [a, b, c, d, e, f, g] i)] := by
  unfold selT
  generalize i.toNat = k at h ⊢
  rcases k with _ | _ | _ | _ | _ | _ | _ | k <;> first | rfl | (simp at h; omega)
@[simp] theorem selI7 (a b c d e f g : Int) {i : Int} (h : i.toNat < [[AV.int .i64 a], [.int .i64 b], [.int .i64 c], [.int .i64 d], [.int .i64 e], [.int .i64 f], [.int .i64 g]].length) : [[AV.int .i64 a], [.int .i64 b], [.int .i64 c], [.int .i64 d], [.int .i64 e], [.int .i64 f], [.int .i64 g]][i.toNat]'h = [.int .i64 (selI [a, b, c, d, e, f, g] i)] := by
  unfold selI
  generalize i.toNat = k at h ⊢
  rcases k with _ | _ | _ | _ | _ | _ | _ | k <;> first | rfl | (simp at h; omega)
@[simp] theorem selT8 (a b c d e f g u : T) {i : Int} (h : i.toNat < [[AV.str a], [.str b], [.str c], [.str d], [.str e], [.str f], [.str g], [.str u]].length) : [[AV.str a], [.str b], [.str c], [.str d], [.str e], [.str f], [.str g], [.str u]][i.toNat]'h = [.str (selT [a, b, c, d, e, f, g, u] i)] := by
  unfold selT
  generalize i.toNat = k at h ⊢
  rcases k with _ | _ | _ | _ | _ | _ | _ | _ | k <;> first | rfl | (simp at h; omega)
@[simp] theorem selI8 (a b c d e f g u : Int) {i : Int} (h : i.toNat < [[AV.int .i64 a], [.int .i64 b], [.int .i64 c], [.int .i64 d], [.int .i64 e], [.int .i64 f], [.int .i64 g], [.int .i64 u]].length) : [[AV.int .i64 a], [.int .i64 b], [.int .i64 c], [.int .i64 d], [.int .i64 e], [.int .i64 f], [.int .i64 g], [.int .i64 u]][i.toNat]'h = [.int .i64 (selI [a, b, c, d, e, f, g, u] i)] := by
  unfold selI
  generalize i.toNat = k at h ⊢
  rcases k with _ | _ | _ | _ | _ | _ | _ | _ | k <;> first | rfl | (simp at h; omega)

noncomputable def drawWant (bs : List Int) (p : Int) (copy : T) : Want :=
  ⟨copy, 1 + pickV bs p 3, selT [⟨#[]⟩, ⟨#[118, 111, 108]⟩, ⟨#[105, 112]⟩, ⟨#[118, 111, 108, 50]⟩] (pickV bs (p + 1) 4), pickV bs (p + 2) 4, pickV bs (p + 3) 3, selI [0, 0, 0, 1, 3, 8] (pickV bs (p + 4) 6), pickV bs (p + 5) 4⟩

/-! ### Drawn values are of moderate size -/
def tame (n : Int) : Prop := -100000000 ≤ n ∧ n ≤ 100000000
structure Want.tame (w : Want) : Prop where
  copy : w.copy.size ≤ 1000
  version : YtndapkimhbngnaaDoor.tame w.version
  hold : w.hold.size ≤ 1000
  pull : YtndapkimhbngnaaDoor.tame w.pull
  start : YtndapkimhbngnaaDoor.tame w.start
  dies : YtndapkimhbngnaaDoor.tame w.dies
  grace : YtndapkimhbngnaaDoor.tame w.grace
structure Run.tame (r : Run) : Prop where
  want : r.want.tame
  state : YtndapkimhbngnaaDoor.tame r.state
  left : YtndapkimhbngnaaDoor.tame r.left
  falls : YtndapkimhbngnaaDoor.tame r.falls
  til : YtndapkimhbngnaaDoor.tame r.til

theorem selT_le {l : List T} {n : Nat} (h : ∀ x ∈ l, x.size ≤ n) (i : Int) : (selT l i).size ≤ n := by
  unfold selT
  rw [List.getD_eq_getElem?_getD]
  cases e : l[i.toNat]? with
  | none => exact Nat.zero_le _
  | some x => exact h x (List.mem_of_getElem? e)
theorem selI_tame {l : List Int} (h : ∀ x ∈ l, tame x) (i : Int) : tame (selI l i) := by
  unfold selI
  rw [List.getD_eq_getElem?_getD]
  cases e : l[i.toNat]? with
  | none => exact ⟨by simp, by simp⟩
  | some x => exact h x (List.mem_of_getElem? e)
theorem pick_tame {x n : Int} (h0 : 0 ≤ x) (h : x < n) (hn : n ≤ 100000000) : tame x := ⟨by omega, by omega⟩

/-! ### A text many times -/
def headMany (s : T) (n : Int) (out : T) : St := hd [(0, .str s), (1, .int .i64 n), (5, .str out)] [] 0

def manyGo (n : Nat) (s out : T) : T := if _h : n = 0 then out else manyGo (n / 2) (s ++ s) (if n % 2 = 1 then out ++ s else out)
termination_by n
decreasing_by omega

theorem app_size (x y : T) : (x ++ y).size = x.size + y.size := ByteArray.size_append

theorem manyGo_size (n : Nat) (s out : T) : (manyGo n s out).size = out.size + s.size * n := by
  rw [manyGo]
  split
  · subst_vars; simp
  · rename_i h
    rw [manyGo_size (n / 2)]
    have e : n = 2 * (n / 2) + n % 2 := by omega
    have h2 : n % 2 < 2 := Nat.mod_lt _ (by omega)
    generalize n / 2 = q at *
    generalize n % 2 = r at *
    subst e
    rcases r with _ | _ | r
    · simp [app_size]
      rw [← Nat.mul_assoc, Nat.mul_two]
    · simp [app_size]
      rw [Nat.mul_add, ← Nat.mul_assoc, Nat.mul_two]
      omega
    · omega
termination_by n
decreasing_by omega

theorem Code.take {bs : List Int} (h : ∀ b ∈ bs, 0 ≤ b ∧ b ≤ 255) : Code (bs.take 2000) := ⟨by rw [List.length_take]; omega, fun b hb => h b (List.mem_of_mem_take hb)⟩

def Want.zero : Want := ⟨⟨#[]⟩, 0, ⟨#[]⟩, 0, 0, 0, 0⟩
theorem Want.zero_tame : Want.zero.tame := ⟨Nat.zero_le _, ⟨by decide, by decide⟩, Nat.zero_le _, ⟨by decide, by decide⟩, ⟨by decide, by decide⟩, ⟨by decide, by decide⟩, ⟨by decide, by decide⟩⟩

end Go.Proofs.YtndapkimhbngnaaDoor

namespace Go.Proofs.YtndapkimhbngnaaDoor
open Go

def Ends {ρ : Type} (o : Option ρ) (Q : ρ → Prop) : Prop := ∃ r, o = some r ∧ Q r
@[simp] theorem Ends_some {ρ : Type} (r : ρ) (Q : ρ → Prop) : Ends (some r) Q ↔ Q r := by
  unfold Ends
  constructor
  · rintro ⟨s, h, k⟩; cases h; exact k
  · exact fun k => ⟨r, rfl, k⟩
theorem Ends.mono {ρ : Type} {o : Option ρ} {Q Q' : ρ → Prop} (h : Ends o Q) (k : ∀ r, Q r → Q' r) : Ends o Q' := by
  obtain ⟨r, h1, h2⟩ := h
  exact ⟨r, h1, k r h2⟩

theorem F_ends {k : Nat} {c : CFn} {args : List AV} {objs : List AO} {Q : AV × List (Option AO) → Prop} (hc : P.fn k = some c) (hl : Nat.ble args.length c.nt = true)
    (h : Ends (fin c.res objs.length (X F [.code c.body] (.normal, ⟨startSlots args 0, startHeap objs 0, 0, objs.length, objs.length⟩))) Q) : Ends (F k args objs) Q := by
  obtain ⟨r, h1, h2⟩ := h
  exact ⟨r, F_run hc hl h1, h2⟩

open Classical in
theorem loop_end {cl : Callee} {ρ σ : Type} {K : Option (AExit × St) → Option ρ} {keep : List Nat} {b : CCode} {fs : List Fr} {Q : ρ → Prop} (H : σ → St) (Inv : σ → Prop) (μ : σ → Nat)
    (step : ∀ x Y, Inv x → (∀ y s', Inv y → μ y < μ x → s'.norm keep = H y → Ends (K (Y s')) Q) → Ends (K (X cl (.code b :: .back Y :: fs) (.normal, H x))) Q)
    (x : σ) {s : St} (hs : s.norm keep = H x) (hi : Inv x) (hm : μ x < big) : Ends (K (X cl (.code (.loop keep b) :: fs) (.normal, s))) Q := by
  have h := loop_by (cl := cl) (K := fun o => if Ends (K o) Q then some () else none) (keep := keep) (b := b) (fs := fs) H Inv μ (fun _ => ()) (fun x Y hx hY => by
    have := step x Y hx (fun y s' h1 h2 h3 => by
      have h4 := hY y s' h1 h2 h3
      split at h4
      · assumption
      · cases h4)
    exact if_pos this) x hs hi hm
  split at h
  · assumption
  · cases h
end Go.Proofs.YtndapkimhbngnaaDoor

namespace Go.Proofs.YtndapkimhbngnaaDoor
open Go
set_option linter.unusedSimpArgs false
set_option maxRecDepth 100000

def digit (d : Nat) : T := ⟨#[48 + UInt8.ofNat d]⟩
def dec (n : Nat) : T := if _h : n < 10 then digit n else dec (n / 10) ++ digit (n % 10)
termination_by n
decreasing_by omega

theorem u8w {d : Nat} (h : d < 10) : IntKind.u8.wrap (IntKind.i64.wrap (48 + (d : Int))) = 48 + (d : Int) := by
  rw [i64w (by omega) (by omega)]
  simp [IntKind.wrap, IntKind.signed, IntKind.bits]
  omega

theorem dec_size : ∀ (j n : Nat), n < 10 ^ (j + 1) → (dec n).size ≤ j + 1
  | 0, n, h => by
    rw [dec, dif_pos (by omega)]
    exact Nat.le_refl _
  | j + 1, n, h => by
    rw [dec]
    split
    · show 1 ≤ _; omega
    · rw [app_size]
      have := dec_size j (n / 10) (Nat.div_lt_of_lt_mul (by rw [Nat.pow_succ] at h; omega))
      have e : (digit (n % 10)).size = 1 := rfl
      omega

theorem law140 (n : Nat) (hn : n < 1000000000000000000) : F 140 [.int .i64 n] [] = some (.str (dec n), []) := by
  induction n using Nat.strongRecOn with
  | ind n ih =>
    refine F_run fn140 rfl ?_
    rw [dec]
    by_cases h : n < 10
    · have hI : (n : Int) < 10 := by omega
      have hu := u8w h
      have ht : (48 + (n : Int)).toNat = 48 + n := by omega
      simp [c140, h, hI, toBytes, hu, digit, ht]
    · have hI : ¬ (n : Int) < 10 := by omega
      have w := ih (n / 10) (by omega) (by omega)
      have hs := dec_size 18 (n / 10) (by omega)
      have hd := Nat.mod_lt n (show 0 < 10 by omega)
      obtain ⟨q, hq⟩ : ∃ q, q = n / 10 := ⟨_, rfl⟩
      obtain ⟨d, hdd⟩ : ∃ d, d = n % 10 := ⟨_, rfl⟩
      have hm : Int.tmod (n : Int) 10 = (d : Int) := by rw [Int.tmod_eq_emod_of_nonneg (by omega)]; omega
      have hm2 : (n : Int) % 10 = (d : Int) := by omega
      have hq2 : (n : Int) / 10 = (q : Int) := by omega
      have hq3 : IntKind.i64.wrap (q : Int) = (q : Int) := i64w (by omega) (by omega)
      rw [← hq] at w hs ⊢
      rw [← hdd] at hd ⊢
      have hu := u8w hd
      have ht : (48 + (d : Int)).toNat = 48 + d := by omega
      have hs2 : (dec q).size + (⟨#[48 + UInt8.ofNat d]⟩ : T).size ≤ 9223372036854775807 := by
        have : (⟨#[48 + UInt8.ofNat d]⟩ : T).size = 1 := rfl
        omega
      simp [c140, h, hI, toBytes, hm, hm2, hq2, hq3, hu, digit, ht, w, hs2]

/-- The name of the i-th copy. -/
theorem cName_size {i : Nat} (h : i < 1000) : ((⟨#[99]⟩ : T) ++ dec i).size ≤ 1000 := by
  rw [app_size]
  have := dec_size 3 i (by omega)
  have e : (⟨#[99]⟩ : T).size = 1 := rfl
  omega

/-! ### Lists of wants and of runs -/
def head145 (bs : List Int) (p : Int) (ws : List Want) (i : Nat) : St := hd [(0, .ptr 0 0 0), (3, .ref 1), (4, .int .i64 i)] [rdBox bs p, .arr 7 (ws.map Want.c)] 1

def Drew (bs : List Int) (p n : Int) (v : AV → Prop) (r : AV × List (Option AO)) : Prop := ∃ x p', r = (x, [some (rdBox bs p')]) ∧ p ≤ p' ∧ p' ≤ p + n ∧ v x

def head162 (bs : List Int) (p clock : Int) (ok : Bool) (rs : List Run) (i : Nat) : St := hd [(0, .ptr 0 0 0), (1, .int .i64 clock), (2, .bool ok), (7, .ref 1), (8, .int .i64 i)] [rdBox bs p, .arr 11 (rs.map Run.c)] 1

end Go.Proofs.YtndapkimhbngnaaDoor

namespace Go.Proofs.YtndapkimhbngnaaDoor
open Go
set_option linter.unusedSimpArgs false

theorem law222 (s p : T) (h : s.size ≤ 9223372036854775807) : F 222 [.str s, .str p] [] = some (.bool (Lib.hasSuffix s.data.toList p.data.toList), []) :=
  lim_prim rfl (by rw [show P.prim = prim from rfl]; simp [prim, primGo, h])
theorem law220 (s sep : T) (h : s.size < 4294967281) (h2 : 1 ≤ sep.size) : F 220 [.str s, .str sep] [] = some (.sl .own 1 ((splitT s sep).map fun x => [.str x]), []) :=
  lim_prim rfl (by rw [show P.prim = prim from rfl]; simp [prim, primGo, h, h2])
theorem textsOf_map : ∀ xs : List T, textsOf (xs.map fun x => [.str x]) = some xs
  | [] => rfl
  | x :: xs => by simp [textsOf, textsOf_map xs]
theorem law230 (xs : List T) (sep : T) (h : xs.length ≤ 140737488355328) (h2 : (joinT xs sep).size ≤ 140737488355328) : F 230 [.sl .bor 1 (xs.map fun x => [.str x]), .str sep] [] = some (.str (joinT xs sep), []) :=
  lim_prim rfl (by rw [show P.prim = prim from rfl]; simp [prim, primGo, textsOf_map, h, h2])
theorem law231 (n : Int) (h : -9223372036854775808 ≤ n) (h2 : n ≤ 9223372036854775807) : F 231 [.int .i64 n] [] = some (.str (itoaT n), []) :=
  lim_prim rfl (by rw [show P.prim = prim from rfl]; simp [prim, primGo, h, h2])
theorem law221 (s : T) (h : s.size ≤ 281474976710656) : F 221 [.str s] [] = some (.int .i64 (numT s), []) :=
  lim_prim rfl (by rw [show P.prim = prim from rfl]; simp [prim, primGo, h])

/-! ### Sizes -/
theorem lit_size (a : Array UInt8) : (⟨a⟩ : T).size = a.size := rfl
theorem le_ok {a : Nat} (h : a ≤ 9223372036854775807) : (a ≤ 9223372036854775807) = True := by simp [h]
theorem text_ext {a b : T} (h : a.data.toList = b.data.toList) : a = b := by
  cases a; cases b; congr; exact Array.ext' h
theorem text_append (a b : T) : (a ++ b).data.toList = a.data.toList ++ b.data.toList := by
  simp
end Go.Proofs.YtndapkimhbngnaaDoor

namespace Go.Proofs.YtndapkimhbngnaaDoor
open Go
set_option linter.unusedSimpArgs false
set_option maxRecDepth 100000

def starOr (h : T) : T := if sEq h ⟨#[]⟩ then ⟨#[42]⟩ else h
def formWant (w : Want) : T := (⟨#[119, 97, 110, 116, 32]⟩ : T) ++ w.copy ++ (⟨#[32]⟩ : T) ++ dec w.version.toNat ++ (⟨#[32]⟩ : T) ++ starOr w.hold ++ (⟨#[32]⟩ : T) ++ dec w.pull.toNat ++ (⟨#[32]⟩ : T) ++ dec w.start.toNat ++ (⟨#[32]⟩ : T) ++ dec w.dies.toNat ++ (⟨#[32]⟩ : T) ++ dec w.grace.toNat ++ (⟨#[10]⟩ : T)

theorem law140' (n : Int) (h0 : 0 ≤ n) (hn : n ≤ 1000000) : F 140 [.int .i64 n] [] = some (.str (dec n.toNat), []) ∧ (dec n.toNat).size ≤ 7 := by
  have h := law140 n.toNat (by omega)
  rw [Int.toNat_of_nonneg h0] at h
  exact ⟨h, dec_size 6 n.toNat (by omega)⟩

theorem starOr_size {h : T} (k : h.size ≤ 20) : (starOr h).size ≤ 20 := by
  unfold starOr
  split
  · show (1 : Nat) ≤ 20; omega
  · exact k

/-- A want whose parts are in their bounds. -/
structure Want.fits (w : Want) : Prop where
  copy : w.copy.size ≤ 20
  hold : w.hold.size ≤ 20
  version : 0 ≤ w.version ∧ w.version ≤ 1000000
  pull : 0 ≤ w.pull ∧ w.pull ≤ 1000000
  start : 0 ≤ w.start ∧ w.start ≤ 1000000
  dies : 0 ≤ w.dies ∧ w.dies ≤ 1000000
  grace : 0 ≤ w.grace ∧ w.grace ≤ 1000000

theorem law240 (w : Want) (hw : w.fits) : F 240 [.agg w.c] [] = some (.str (formWant w), []) := by
  refine F_run fn240 rfl ?_
  obtain ⟨h1, h2, n1, n2, n3, n4, n5⟩ := hw
  obtain ⟨a1, b1⟩ := law140' _ n1.1 n1.2
  obtain ⟨a2, b2⟩ := law140' _ n2.1 n2.2
  obtain ⟨a3, b3⟩ := law140' _ n3.1 n3.2
  obtain ⟨a4, b4⟩ := law140' _ n4.1 n4.2
  obtain ⟨a5, b5⟩ := law140' _ n5.1 n5.2
  have hh := starOr_size h2
  have z1 : (⟨#[119, 97, 110, 116, 32]⟩ : T).size = 5 := rfl
  have z2 : (⟨#[32]⟩ : T).size = 1 := rfl
  have z3 : (⟨#[10]⟩ : T).size = 1 := rfl
  unfold formWant
  cases q : sEq w.hold ⟨#[]⟩
  · have e : starOr w.hold = w.hold := by simp [starOr, q]
    rw [e] at hh ⊢
    have s2 : (⟨#[119, 97, 110, 116, 32]⟩ : T).size + (w.copy).size ≤ 9223372036854775807 := by omega
    have s3 : (⟨#[119, 97, 110, 116, 32]⟩ : T).size + (w.copy).size + (⟨#[32]⟩ : T).size ≤ 9223372036854775807 := by omega
    have s4 : (⟨#[119, 97, 110, 116, 32]⟩ : T).size + (w.copy).size + (⟨#[32]⟩ : T).size + (dec w.version.toNat).size ≤ 9223372036854775807 := by omega
    have s5 : (⟨#[119, 97, 110, 116, 32]⟩ : T).size + (w.copy).size + (⟨#[32]⟩ : T).size + (dec w.version.toNat).size + (⟨#[32]⟩ : T).size ≤ 9223372036854775807 := by omega
    have s6 : (⟨#[119, 97, 110, 116, 32]⟩ : T).size + (w.copy).size + (⟨#[32]⟩ : T).size + (dec w.version.toNat).size + (⟨#[32]⟩ : T).size + (w.hold).size ≤ 9223372036854775807 := by omega
    have s7 : (⟨#[119, 97, 110, 116, 32]⟩ : T).size + (w.copy).size + (⟨#[32]⟩ : T).size + (dec w.version.toNat).size + (⟨#[32]⟩ : T).size + (w.hold).size + (⟨#[32]⟩ : T).size ≤ 9223372036854775807 := by omega
    have s8 : (⟨#[119, 97, 110, 116, 32]⟩ : T).size + (w.copy).size + (⟨#[32]⟩ : T).size + (dec w.version.toNat).size + (⟨#[32]⟩ : T).size + (w.hold).size + (⟨#[32]⟩ : T).size + (dec w.pull.toNat).size ≤ 9223372036854775807 := by omega
    have s9 : (⟨#[119, 97, 110, 116, 32]⟩ : T).size + (w.copy).size + (⟨#[32]⟩ : T).size + (dec w.version.toNat).size + (⟨#[32]⟩ : T).size + (w.hold).size + (⟨#[32]⟩ : T).size + (dec w.pull.toNat).size + (⟨#[32]⟩ : T).size ≤ 9223372036854775807 := by omega
    have s10 : (⟨#[119, 97, 110, 116, 32]⟩ : T).size + (w.copy).size + (⟨#[32]⟩ : T).size + (dec w.version.toNat).size + (⟨#[32]⟩ : T).size + (w.hold).size + (⟨#[32]⟩ : T).size + (dec w.pull.toNat).size + (⟨#[32]⟩ : T).size + (dec w.start.toNat).size ≤ 9223372036854775807 := by omega
    have s11 : (⟨#[119, 97, 110, 116, 32]⟩ : T).size + (w.copy).size + (⟨#[32]⟩ : T).size + (dec w.version.toNat).size + (⟨#[32]⟩ : T).size + (w.hold).size + (⟨#[32]⟩ : T).size + (dec w.pull.toNat).size + (⟨#[32]⟩ : T).size + (dec w.start.toNat).size + (⟨#[32]⟩ : T).size ≤ 9223372036854775807 := by omega
    have s12 : (⟨#[119, 97, 110, 116, 32]⟩ : T).size + (w.copy).size + (⟨#[32]⟩ : T).size + (dec w.version.toNat).size + (⟨#[32]⟩ : T).size + (w.hold).size + (⟨#[32]⟩ : T).size + (dec w.pull.toNat).size + (⟨#[32]⟩ : T).size + (dec w.start.toNat).size + (⟨#[32]⟩ : T).size + (dec w.dies.toNat).size ≤ 9223372036854775807 := by omega
    have s13 : (⟨#[119, 97, 110, 116, 32]⟩ : T).size + (w.copy).size + (⟨#[32]⟩ : T).size + (dec w.version.toNat).size + (⟨#[32]⟩ : T).size + (w.hold).size + (⟨#[32]⟩ : T).size + (dec w.pull.toNat).size + (⟨#[32]⟩ : T).size + (dec w.start.toNat).size + (⟨#[32]⟩ : T).size + (dec w.dies.toNat).size + (⟨#[32]⟩ : T).size ≤ 9223372036854775807 := by omega
    have s14 : (⟨#[119, 97, 110, 116, 32]⟩ : T).size + (w.copy).size + (⟨#[32]⟩ : T).size + (dec w.version.toNat).size + (⟨#[32]⟩ : T).size + (w.hold).size + (⟨#[32]⟩ : T).size + (dec w.pull.toNat).size + (⟨#[32]⟩ : T).size + (dec w.start.toNat).size + (⟨#[32]⟩ : T).size + (dec w.dies.toNat).size + (⟨#[32]⟩ : T).size + (dec w.grace.toNat).size ≤ 9223372036854775807 := by omega
    have s15 : (⟨#[119, 97, 110, 116, 32]⟩ : T).size + (w.copy).size + (⟨#[32]⟩ : T).size + (dec w.version.toNat).size + (⟨#[32]⟩ : T).size + (w.hold).size + (⟨#[32]⟩ : T).size + (dec w.pull.toNat).size + (⟨#[32]⟩ : T).size + (dec w.start.toNat).size + (⟨#[32]⟩ : T).size + (dec w.dies.toNat).size + (⟨#[32]⟩ : T).size + (dec w.grace.toNat).size + (⟨#[10]⟩ : T).size ≤ 9223372036854775807 := by omega
    simp [c240, q, a1, a2, a3, a4, a5, s2, s3, s4, s5, s6, s7, s8, s9, s10, s11, s12, s13, s14, s15]
  · have e : starOr w.hold = ⟨#[42]⟩ := by simp [starOr, q]
    rw [e] at hh ⊢
    have s2 : (⟨#[119, 97, 110, 116, 32]⟩ : T).size + (w.copy).size ≤ 9223372036854775807 := by omega
    have s3 : (⟨#[119, 97, 110, 116, 32]⟩ : T).size + (w.copy).size + (⟨#[32]⟩ : T).size ≤ 9223372036854775807 := by omega
    have s4 : (⟨#[119, 97, 110, 116, 32]⟩ : T).size + (w.copy).size + (⟨#[32]⟩ : T).size + (dec w.version.toNat).size ≤ 9223372036854775807 := by omega
    have s5 : (⟨#[119, 97, 110, 116, 32]⟩ : T).size + (w.copy).size + (⟨#[32]⟩ : T).size + (dec w.version.toNat).size + (⟨#[32]⟩ : T).size ≤ 9223372036854775807 := by omega
    have s6 : (⟨#[119, 97, 110, 116, 32]⟩ : T).size + (w.copy).size + (⟨#[32]⟩ : T).size + (dec w.version.toNat).size + (⟨#[32]⟩ : T).size + (⟨#[42]⟩ : T).size ≤ 9223372036854775807 := by omega
    have s7 : (⟨#[119, 97, 110, 116, 32]⟩ : T).size + (w.copy).size + (⟨#[32]⟩ : T).size + (dec w.version.toNat).size + (⟨#[32]⟩ : T).size + (⟨#[42]⟩ : T).size + (⟨#[32]⟩ : T).size ≤ 9223372036854775807 := by omega
    have s8 : (⟨#[119, 97, 110, 116, 32]⟩ : T).size + (w.copy).size + (⟨#[32]⟩ : T).size + (dec w.version.toNat).size + (⟨#[32]⟩ : T).size + (⟨#[42]⟩ : T).size + (⟨#[32]⟩ : T).size + (dec w.pull.toNat).size ≤ 9223372036854775807 := by omega
    have s9 : (⟨#[119, 97, 110, 116, 32]⟩ : T).size + (w.copy).size + (⟨#[32]⟩ : T).size + (dec w.version.toNat).size + (⟨#[32]⟩ : T).size + (⟨#[42]⟩ : T).size + (⟨#[32]⟩ : T).size + (dec w.pull.toNat).size + (⟨#[32]⟩ : T).size ≤ 9223372036854775807 := by omega
    have s10 : (⟨#[119, 97, 110, 116, 32]⟩ : T).size + (w.copy).size + (⟨#[32]⟩ : T).size + (dec w.version.toNat).size + (⟨#[32]⟩ : T).size + (⟨#[42]⟩ : T).size + (⟨#[32]⟩ : T).size + (dec w.pull.toNat).size + (⟨#[32]⟩ : T).size + (dec w.start.toNat).size ≤ 9223372036854775807 := by omega
    have s11 : (⟨#[119, 97, 110, 116, 32]⟩ : T).size + (w.copy).size + (⟨#[32]⟩ : T).size + (dec w.version.toNat).size + (⟨#[32]⟩ : T).size + (⟨#[42]⟩ : T).size + (⟨#[32]⟩ : T).size + (dec w.pull.toNat).size + (⟨#[32]⟩ : T).size + (dec w.start.toNat).size + (⟨#[32]⟩ : T).size ≤ 9223372036854775807 := by omega
    have s12 : (⟨#[119, 97, 110, 116, 32]⟩ : T).size + (w.copy).size + (⟨#[32]⟩ : T).size + (dec w.version.toNat).size + (⟨#[32]⟩ : T).size + (⟨#[42]⟩ : T).size + (⟨#[32]⟩ : T).size + (dec w.pull.toNat).size + (⟨#[32]⟩ : T).size + (dec w.start.toNat).size + (⟨#[32]⟩ : T).size + (dec w.dies.toNat).size ≤ 9223372036854775807 := by omega
    have s13 : (⟨#[119, 97, 110, 116, 32]⟩ : T).size + (w.copy).size + (⟨#[32]⟩ : T).size + (dec w.version.toNat).size + (⟨#[32]⟩ : T).size + (⟨#[42]⟩ : T).size + (⟨#[32]⟩ : T).size + (dec w.pull.toNat).size + (⟨#[32]⟩ : T).size + (dec w.start.toNat).size + (⟨#[32]⟩ : T).size + (dec w.dies.toNat).size + (⟨#[32]⟩ : T).size ≤ 9223372036854775807 := by omega
    have s14 : (⟨#[119, 97, 110, 116, 32]⟩ : T).size + (w.copy).size + (⟨#[32]⟩ : T).size + (dec w.version.toNat).size + (⟨#[32]⟩ : T).size + (⟨#[42]⟩ : T).size + (⟨#[32]⟩ : T).size + (dec w.pull.toNat).size + (⟨#[32]⟩ : T).size + (dec w.start.toNat).size + (⟨#[32]⟩ : T).size + (dec w.dies.toNat).size + (⟨#[32]⟩ : T).size + (dec w.grace.toNat).size ≤ 9223372036854775807 := by omega
    have s15 : (⟨#[119, 97, 110, 116, 32]⟩ : T).size + (w.copy).size + (⟨#[32]⟩ : T).size + (dec w.version.toNat).size + (⟨#[32]⟩ : T).size + (⟨#[42]⟩ : T).size + (⟨#[32]⟩ : T).size + (dec w.pull.toNat).size + (⟨#[32]⟩ : T).size + (dec w.start.toNat).size + (⟨#[32]⟩ : T).size + (dec w.dies.toNat).size + (⟨#[32]⟩ : T).size + (dec w.grace.toNat).size + (⟨#[10]⟩ : T).size ≤ 9223372036854775807 := by omega
    simp [c240, q, a1, a2, a3, a4, a5, s2, s3, s4, s5, s6, s7, s8, s9, s10, s11, s12, s13, s14, s15]
end Go.Proofs.YtndapkimhbngnaaDoor

namespace Go.Proofs.YtndapkimhbngnaaDoor
open Go
set_option linter.unusedSimpArgs false

/-- Ascending by a text. -/
def Asc {α : Type} (key : α → T) (xs : List α) : Prop := xs.Pairwise fun a b => sLt (key a) (key b) = true

def ascL {α : Type} (key : α → T) (pre : List α) (x : α) : Bool := match pre.getLast? with
  | none => true
  | some p => sLt (key p) (key x)

theorem asc_snoc {α : Type} (key : α → T) (pre : List α) (x : α) (h : Asc key pre) : ascL key pre x = true ↔ Asc key (pre ++ [x]) := by
  unfold Asc at *
  unfold ascL
  rw [List.pairwise_append]
  rcases List.eq_nil_or_concat pre with rfl | ⟨l, p, rfl⟩
  · simp
  · simp only [List.concat_eq_append, List.getLast?_append, List.getLast?_singleton, Option.some_or] at h ⊢
    constructor
    · intro hp
      refine ⟨h, List.pairwise_singleton _ _, fun a ha b hb => ?_⟩
      rw [List.mem_singleton.1 hb]
      rcases List.mem_append.1 ha with ha | ha
      · exact sLt_trans ((List.pairwise_append.1 h).2.2 a ha p (List.mem_singleton.2 rfl)) hp
      · rw [List.mem_singleton.1 ha]; exact hp
    · exact fun ⟨_, _, k⟩ => k p (List.mem_append_right _ (List.mem_singleton.2 rfl)) x (List.mem_singleton.2 rfl)

theorem ascR_eq (pre : List Run) (r : Run) : ascR pre r = ascL (fun x : Run => x.want.copy) pre r := by unfold ascR ascL; cases pre.getLast? <;> rfl
theorem ascA_eq (pre : List Ask) (r : Ask) : ascA pre r = ascL (fun x : Ask => x.hold) pre r := by unfold ascA ascL; cases pre.getLast? <;> rfl
theorem ascW_eq (pre : List Want) (r : Want) : ascW pre r = ascL (fun x : Want => x.copy) pre r := by unfold ascW ascL; cases pre.getLast? <;> rfl
theorem Asc.left {α : Type} {key : α → T} {a b : List α} (h : Asc key (a ++ b)) : Asc key a := (List.pairwise_append.1 h).1
theorem Asc.right {α : Type} {key : α → T} {a b : List α} (h : Asc key (a ++ b)) : Asc key b := (List.pairwise_append.1 h).2.1
theorem Asc.nil {α : Type} (key : α → T) : Asc key [] := List.Pairwise.nil

theorem runsGo_iff (c : Int) : ∀ (rs pre : List Run), Asc (·.want.copy) pre → (runsGo c pre rs = true ↔ (∀ r ∈ rs, runOk r c = true) ∧ Asc (·.want.copy) (pre ++ rs))
  | [], pre, h => by simp [runsGo, h]
  | r :: rs, pre, h => by
    have e := asc_snoc (fun x : Run => x.want.copy) pre r h
    rw [← ascR_eq] at e
    simp only [runsGo, Bool.and_eq_true]
    constructor
    · rintro ⟨h1, h2, h3⟩
      have h4 := e.1 h2
      obtain ⟨h5, h6⟩ := (runsGo_iff c rs (pre ++ [r]) h4).1 h3
      exact ⟨fun x hx => (List.mem_cons.1 hx).elim (fun q => q ▸ h1) (h5 x), by simpa using h6⟩
    · rintro ⟨h1, h2⟩
      have h3 : Asc (fun x : Run => x.want.copy) ((pre ++ [r]) ++ rs) := by simpa using h2
      exact ⟨h1 r List.mem_cons_self, e.2 h3.left, (runsGo_iff c rs (pre ++ [r]) h3.left).2 ⟨fun x hx => h1 x (List.mem_cons_of_mem _ hx), h3⟩⟩

theorem runsOk_iff (rs : List Run) (c : Int) : runsOk rs c = true ↔ rs.length ≤ 20 ∧ (∀ r ∈ rs, runOk r c = true) ∧ Asc (·.want.copy) rs := by
  simp only [runsOk, Bool.and_eq_true, decide_eq_true_eq]
  rw [runsGo_iff c rs [] (Asc.nil _)]
  rfl

theorem asksGo_iff (c : Int) : ∀ (l pre : List Ask), Asc (·.hold) pre → (asksGo c pre l = true ↔ (∀ r ∈ l, askOk c r = true) ∧ Asc (·.hold) (pre ++ l))
  | [], pre, h => by simp [asksGo, h]
  | r :: rs, pre, h => by
    have e := asc_snoc (fun x : Ask => x.hold) pre r h
    rw [← ascA_eq] at e
    simp only [asksGo, Bool.and_eq_true]
    constructor
    · rintro ⟨h1, h2, h3⟩
      have h4 := e.1 h2
      obtain ⟨h5, h6⟩ := (asksGo_iff c rs (pre ++ [r]) h4).1 h3
      exact ⟨fun x hx => (List.mem_cons.1 hx).elim (fun q => q ▸ h1) (h5 x), by simpa using h6⟩
    · rintro ⟨h1, h2⟩
      have h3 : Asc (fun x : Ask => x.hold) ((pre ++ [r]) ++ rs) := by simpa using h2
      exact ⟨h1 r List.mem_cons_self, e.2 h3.left, (asksGo_iff c rs (pre ++ [r]) h3.left).2 ⟨fun x hx => h1 x (List.mem_cons_of_mem _ hx), h3⟩⟩

theorem asksOk_iff (l : List Ask) (c : Int) : asksOk l c = true ↔ l.length ≤ 40 ∧ (∀ r ∈ l, askOk c r = true) ∧ Asc (·.hold) l := by
  simp only [asksOk, Bool.and_eq_true, decide_eq_true_eq]
  rw [asksGo_iff c l [] (Asc.nil _)]
  rfl

/-- No two have one hold. -/
def Apart (ws : List Want) : Prop := ws.Pairwise fun a b => sEq b.hold ⟨#[]⟩ = true ∨ sEq a.hold b.hold = false

theorem fresh_snoc (pre : List Want) (w : Want) (h : Apart pre) : freshW pre w = true ↔ Apart (pre ++ [w]) := by
  unfold Apart at *
  rw [List.pairwise_append]
  simp only [freshW, heldB, Bool.or_eq_true, Bool.not_eq_true', List.any_eq_false, Bool.not_eq_true]
  constructor
  · rintro (h1 | h1)
    · exact ⟨h, List.pairwise_singleton _ _, fun a _ b hb => by rw [List.mem_singleton.1 hb]; exact .inl h1⟩
    · exact ⟨h, List.pairwise_singleton _ _, fun a ha b hb => by rw [List.mem_singleton.1 hb]; exact .inr (h1 a ha)⟩
  · rintro ⟨_, _, k⟩
    by_cases e : sEq w.hold ⟨#[]⟩ = true
    · exact .inl e
    · exact .inr fun a ha => (k a ha w (List.mem_singleton.2 rfl)).resolve_left e

theorem wantsGo_iff : ∀ (l pre : List Want), Asc (·.copy) pre → Apart pre → (wantsGo pre l = true ↔ (∀ r ∈ l, wantOk r = true) ∧ Asc (·.copy) (pre ++ l) ∧ Apart (pre ++ l))
  | [], pre, h, k => by simp [wantsGo, h, k]
  | r :: rs, pre, h, k => by
    have e := asc_snoc (fun x : Want => x.copy) pre r h
    rw [← ascW_eq] at e
    have e2 := fresh_snoc pre r k
    simp only [wantsGo, Bool.and_eq_true]
    constructor
    · rintro ⟨h1, h2, h3, h7⟩
      have h4 := e.1 h2
      obtain ⟨h5, h6, h8⟩ := (wantsGo_iff rs (pre ++ [r]) h4 (e2.1 h3)).1 h7
      exact ⟨fun x hx => (List.mem_cons.1 hx).elim (fun q => q ▸ h1) (h5 x), by simpa using h6, by simpa using h8⟩
    · rintro ⟨h1, h2, h4⟩
      have h3 : Asc (fun x : Want => x.copy) ((pre ++ [r]) ++ rs) := by simpa using h2
      have h5 : Apart ((pre ++ [r]) ++ rs) := by simpa using h4
      have h6 : Apart (pre ++ [r]) := (List.pairwise_append.1 h5).1
      exact ⟨h1 r List.mem_cons_self, e.2 h3.left, e2.2 h6, (wantsGo_iff rs (pre ++ [r]) h3.left h6).2 ⟨fun x hx => h1 x (List.mem_cons_of_mem _ hx), h3, h5⟩⟩

theorem wantsOk_iff (ws : List Want) : wantsOk ws = true ↔ ws.length ≤ 10 ∧ (∀ w ∈ ws, wantOk w = true) ∧ Asc (·.copy) ws ∧ Apart ws := by
  simp only [wantsOk, Bool.and_eq_true, decide_eq_true_eq]
  rw [wantsGo_iff ws [] (Asc.nil _) List.Pairwise.nil]
  rfl

theorem isName_nil : isName ⟨#[]⟩ = false := by decide

theorem mateParts_iff (m : Mate) : mateParts m = true ↔ isName m.name = true ∧ inR m.clock 0 1000000 = true ∧ inR m.seen 0 1000000 = true ∧ wantsOk m.wants = true ∧ (m.known = true ∨ m.wants = []) ∧ runsOk m.runs m.clock = true ∧ asksOk m.asks m.clock = true ∧ asksOk m.gives m.clock = true := by
  simp only [mateParts, Bool.and_eq_true, Bool.or_eq_true, List.isEmpty_iff]

theorem mateValid_iff (m : Mate) : mateValid m = true ↔ mateParts m = true ∧ apartGo m.gives m.asks = true ∧ (m.up = true ∨ mateDown m = true) := by
  simp only [mateValid, Bool.and_eq_true, Bool.or_eq_true]

theorem asksOk_nil (c : Int) : asksOk [] c = true := by simp [asksOk, asksGo]
theorem wantsOk_nil : wantsOk [] = true := by simp [wantsOk, wantsGo]

theorem fallRun_ok {b : Bool} {r r' : Run} {c : Int} (h : runOk r c = true) (e : fallRun b r = some r') : runOk r' c = true ∧ r'.want = r.want ∧ (alive r' || !sEq r'.want.hold ⟨#[]⟩) = true ∧ alive r' = !b ∧ (b = false → r' = r ∧ alive r = true) := by
  unfold fallRun at e
  split at e
  case isFalse => cases e
  rename_i ha
  cases b
  · simp only [Bool.false_eq_true, if_false, Option.some.injEq] at e
    subst e
    exact ⟨h, rfl, by simp [ha], by simp [ha], fun _ => ⟨rfl, ha⟩⟩
  · simp only [if_true] at e
    split at e
    · cases e
    · rename_i hh
      simp only [Option.some.injEq] at e
      subst e
      have hh' : sEq r.want.hold ⟨#[]⟩ = false := by simpa using hh
      refine ⟨?_, rfl, by simp [hh'], by simp [alive, aliveS], fun h => by cases h⟩
      simp only [runOk, Bool.and_eq_true] at h ⊢
      obtain ⟨h1, h2, h3, h4, h5, h6, h7, h8⟩ := h
      exact ⟨h1, by simp [inR], by simp [inR], by simp, h5, h6, h7, by simp [alive, aliveS]⟩

theorem fall_valid {m : Mate} (b : Bool) (h : mateValid m = true) : mateValid (mateFall m b) = true := by
  obtain ⟨h1, h2, h3⟩ := (mateValid_iff m).1 h
  obtain ⟨p1, p2, p3, p4, p5, p6, p7, p8⟩ := (mateParts_iff m).1 h1
  obtain ⟨r1, r2, r3⟩ := (runsOk_iff _ _).1 p6
  unfold mateFall
  rw [if_pos h]
  refine (mateValid_iff _).2 ⟨(mateParts_iff _).2 ⟨p1, p2, by simp [Mate.zero, inR], wantsOk_nil, .inr rfl, (runsOk_iff _ _).2 ⟨?_, ?_, ?_⟩, asksOk_nil _, asksOk_nil _⟩, by simp [apartGo, Mate.zero], .inr ?_⟩
  · exact Nat.le_trans (List.length_filterMap_le _ _) r1
  · intro r hr
    obtain ⟨r0, k1, k2⟩ := List.mem_filterMap.1 hr
    exact (fallRun_ok (r2 r0 k1) k2).1
  · refine List.Pairwise.filterMap _ (fun a b' hab x hx y hy => ?_) r3
    · have hx' := hx
      have hy' := hy
      have e : ∀ {r r' : Run}, fallRun b r = some r' → r'.want = r.want := fun {r r'} e => by
        unfold fallRun at e
        split at e
        · split at e
          · split at e
            · cases e
            · rw [← Option.some.inj e]
          · rw [← Option.some.inj e]
        · cases e
      simp only at hab ⊢
      rw [e hx, e hy]; exact hab
  · simp only [mateDown, Mate.zero, Bool.not_false, List.isEmpty_nil, beq_self_eq_true, Bool.true_and, downRuns, List.all_eq_true]
    intro r hr
    obtain ⟨r0, k1, k2⟩ := List.mem_filterMap.1 hr
    exact (fallRun_ok (r2 r0 k1) k2).2.2.1

theorem rise_valid {m : Mate} (h : mateValid m = true) : mateValid (mateRise m) = true := by
  obtain ⟨h1, h2, h3⟩ := (mateValid_iff m).1 h
  unfold mateRise
  rw [if_pos h]
  refine (mateValid_iff _).2 ⟨h1, h2, ?_⟩
  simp only [Bool.or_eq_true]
  rcases h3 with h3 | h3
  · exact .inl (.inl h3)
  · exact .inr h3

theorem zero_invalid : mateValid .zero = false := by
  cases h : mateValid .zero with
  | false => rfl
  | true =>
    have := ((mateParts_iff _).1 ((mateValid_iff _).1 h).1).1
    simp [Mate.zero, isName_nil] at this
end Go.Proofs.YtndapkimhbngnaaDoor
