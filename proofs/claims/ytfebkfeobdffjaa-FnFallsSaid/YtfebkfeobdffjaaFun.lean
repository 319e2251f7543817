/- Functions: a call of one does what the abstract machine's call says. -/
import Derived.Test.YtfebkfeobdffjaaRun
namespace Go.Proofs.Ytfebkfeobdffjaa
open Go Go.RowKit
set_option linter.unusedSimpArgs false

def chkRes (P : Program) : List ResultVar → List CRes → Bool
  | [], [] => true
  | .tmp t :: rs, .tmp t' :: cs => t == t' && chkRes P rs cs
  | .cell t ty :: rs, .cell t' sz agg :: cs => t == t' && (sizeB P ty (fun i => decide (i.size = sz)) && ((match P.underlying ty with | some d => aggB d == agg && (aggB d || sz == 1) | none => false) && chkRes P rs cs))
  | _, _ => false

def chkFn (P : Program) (num : Nat → Option FuncId) (fn : Func) (c : CFn) : Bool :=
  (fn.name != "runtime.NumGoroutine") && (fn.ntmps == c.nt && (match fn.body with | some b => chkCode P num c.nt c.body b && chkRes P fn.results.toList c.res | none => false))

section
variable {cx : Cx} {h : Nat → Option AO} {ep : Nat} {g : Gh} {w : World}

/-- The blocks of these objects. -/
def Fp (h : Nat → Option AO) (g : Gh) (is : List Nat) (x : Nat) : Prop := ∃ i o, i ∈ is ∧ h i = some o ∧ g.fp i x

theorem Fp.apart (m : Mem cx h ep g w) {is js : List Nat} (hd : ∀ i ∈ is, i ∉ js) {x : Nat} (h1 : Fp h g is x) (h2 : Fp h g js x) : False := by
  obtain ⟨i, o, hi, ho, hf⟩ := h1
  obtain ⟨j, o', hj, ho', hf'⟩ := h2
  exact hd i hi (m.disj i j o o' x ho ho' hf hf' ▸ hj)

theorem Fp.mono {is js : List Nat} (hs : ∀ i ∈ is, i ∈ js) {x : Nat} (h1 : Fp h g is x) : Fp h g js x := by
  obtain ⟨i, o, hi, ho, hf⟩ := h1
  exact ⟨i, o, hs i hi, ho, hf⟩

theorem shut1_rel (m : Mem cx h ep g w) {u : Value} {c d : AV} {is : List Nat} (hr : SRel cx.num w cx.R g h ep u c) (hs : shut1 h c = some (d, is)) :
    ∃ S, Cl w g.I u d S ∧ (∀ x, S x → Fp h g is x) ∧ (∀ x, S x → g.N x) ∧ ∀ i ∈ is, ∃ sz xs, h i = some (.arr sz xs) := by
  have none_ : ∀ {u d}, Cl w g.I u d (fun _ => False) → ∃ S, Cl w g.I u d S ∧ (∀ x, S x → Fp h g [] x) ∧ (∀ x, S x → g.N x) ∧ ∀ i ∈ ([] : List Nat), ∃ sz xs, h i = some (.arr sz xs) := fun hc => ⟨_, hc, fun _ h => h.elim, fun _ h => h.elim, by simp⟩
  cases c <;> simp only [shut1, reduceCtorEq, Option.some.injEq, Prod.mk.injEq] at hs
  · obtain ⟨rfl, rfl⟩ := hs; cases hr; exact none_ (.bool _ _ (fun _ h => h))
  · obtain ⟨rfl, rfl⟩ := hs; cases hr; exact none_ (.int _ _ _ (fun _ h => h))
  · obtain ⟨rfl, rfl⟩ := hs; cases hr; exact none_ (.str _ _ (fun _ h => h))
  · rename_i md sz xs
    cases md with
    | own => cases xs with
      | nil =>
        simp only [Option.some.injEq, Prod.mk.injEq] at hs
        obtain ⟨rfl, rfl⟩ := hs
        cases hr with
        | nil => exact none_ (.nil _ _ (fun _ h => h))
        | sl _ _ _ _ _ _ _ hown => exact absurd rfl hown
      | cons _ _ => simp at hs
    | imm =>
      have hb : d = .sl .imm sz xs ∧ is = [] := by cases xs <;> simp_all
      obtain ⟨rfl, rfl⟩ := hb
      cases hr with
      | sl _ _ _ _ _ hm => exact none_ (.imm _ _ _ _ (hm rfl) (fun _ h => h))
    | bor => cases xs <;> simp at hs
    | snap e => cases xs <;> simp at hs
  · rename_i id
    cases hh : h id with
    | none => rw [hh] at hs; cases hs
    | some ob =>
      rw [hh] at hs
      cases ob <;> simp only [reduceCtorEq, Option.some.injEq, Prod.mk.injEq] at hs
      obtain ⟨rfl, rfl⟩ := hs
      cases hr with
      | ref _ _ _ _ hv =>
        rw [hv _ hh]
        obtain ⟨h1, h2⟩ := m.objs id _ hh
        exact ⟨_, h1, fun x hx => ⟨id, _, by simp, hh, hx⟩, h2, fun i hi => by rw [List.mem_singleton.1 hi]; exact ⟨_, _, hh⟩⟩

theorem shutL_rel (m : Mem cx h ep g w) : ∀ {us : List Value} {cs ds : List AV} {is : List Nat}, us.length = cs.length → (∀ (i : Nat) (u : Value) (c : AV), us[i]? = some u → cs[i]? = some c → SRel cx.num w cx.R g h ep u c) → shutL h cs = some (ds, is) → is.Nodup →
    ∃ fs, ClCells w g.I g.N us ds fs ∧ (∀ i x, i < ds.length → fs i x → Fp h g is x) ∧ ∀ i ∈ is, ∃ sz xs, h i = some (.arr sz xs)
  | [], [], ds, is, _, _, hs, _ => by
    simp only [shutL, Option.some.injEq, Prod.mk.injEq] at hs
    obtain ⟨rfl, rfl⟩ := hs
    exact ⟨fun _ _ => False, ⟨rfl, fun i u c hu => by simp at hu, fun i x hi => by simp at hi, fun i j x hi => by simp at hi⟩, fun i x hi => by simp at hi, by simp⟩
  | [], _ :: _, _, _, hl, _, _, _ => by simp at hl
  | _ :: _, [], _, _, hl, _, _, _ => by simp at hl
  | u :: us, c :: cs, ds, is, hl, hr, hs, hn => by
    simp only [shutL] at hs
    cases h1 : shut1 h c with
    | none => rw [h1] at hs; cases hs
    | some p =>
      obtain ⟨d, i1⟩ := p
      rw [h1] at hs
      simp only at hs
      cases h2 : shutL h cs with
      | none => rw [h2] at hs; cases hs
      | some q =>
        obtain ⟨ds', i2⟩ := q
        rw [h2] at hs
        simp only [Option.some.injEq, Prod.mk.injEq] at hs
        obtain ⟨rfl, rfl⟩ := hs
        obtain ⟨n1, n2, n3⟩ := List.nodup_append.1 hn
        obtain ⟨S, a1, a2, a3, a4⟩ := shut1_rel m (hr 0 u c rfl rfl) h1
        obtain ⟨fs, b1, b2, b3⟩ := shutL_rel m (by simpa using hl) (fun i v e hv he => hr (i + 1) v e (by simpa using hv) (by simpa using he)) h2 n2
        have hdis : ∀ i ∈ i1, i ∉ i2 := fun i h3 h4 => n3 i h3 i h4 rfl
        refine ⟨fun k => match k with | 0 => S | k + 1 => fs k, ⟨by simp [b1.size], fun k v e hv he => ?_, fun k x hk hx => ?_, fun k l x hk hl' hx hx' => ?_⟩, fun k x hk hx => ?_, fun i hi => ?_⟩
        · cases k with
          | zero => simp only [List.getElem?_cons_zero, Option.some.injEq] at hv he; subst hv; subst he; exact a1
          | succ k => exact b1.cl k v e (by simpa using hv) (by simpa using he)
        · cases k with
          | zero => exact a3 x hx
          | succ k => exact b1.inN k x (by simpa using hk) hx
        · cases k with
          | zero => cases l with
            | zero => rfl
            | succ l => exact (Fp.apart m hdis (a2 x hx) (b2 l x (by simpa using hl') hx')).elim
          | succ k => cases l with
            | zero => exact (Fp.apart m hdis (a2 x hx') (b2 k x (by simpa using hk) hx)).elim
            | succ l => exact congrArg (· + 1) (b1.dis k l x (by simpa using hk) (by simpa using hl') hx hx')
        · cases k with
          | zero => exact (a2 x hx).mono fun i hi => List.mem_append.2 (.inl hi)
          | succ k => exact (b2 k x (by simpa using hk) hx).mono fun i hi => List.mem_append.2 (.inr hi)
        · rcases List.mem_append.1 hi with h3 | h3
          · exact a4 i h3
          · exact b3 i h3

theorem shutL_length : ∀ {cs ds : List AV} {is : List Nat}, shutL h cs = some (ds, is) → ds.length = cs.length
  | [], ds, is, hs => by
    simp only [shutL, Option.some.injEq, Prod.mk.injEq] at hs
    rw [← hs.1]
  | c :: cs, ds, is, hs => by
    simp only [shutL] at hs
    cases h1 : shut1 h c with
    | none => rw [h1] at hs; cases hs
    | some p =>
      obtain ⟨d, i1⟩ := p
      rw [h1] at hs
      simp only at hs
      cases h2 : shutL h cs with
      | none => rw [h2] at hs; cases hs
      | some q =>
        obtain ⟨ds', i2⟩ := q
        rw [h2] at hs
        simp only [Option.some.injEq, Prod.mk.injEq] at hs
        rw [← hs.1]
        simp [shutL_length h2]

/-- A variable with what its cells hold. -/
theorem box_shut (m : Mem cx h ep g w) {id : Nat} {cells ds : List AV} {is : List Nat} (hh : h id = some (.box cells)) (hs : shutL h cells = some (ds, is)) (hn : is.Nodup) :
    ∃ S, Shut w g.I g.N (g.v id) (.cellp ds) S ∧ (∀ x, S x → Fp h g (id :: is) x) ∧ ∀ i ∈ is, ∃ sz xs, h i = some (.arr sz xs) := by
  obtain ⟨b, cur, e, h1, h2, h3, h4, h5, h6⟩ := m.objs id _ hh
  obtain ⟨fs, b1, b2, b3⟩ := shutL_rel m (us := cur.toList) (by simpa using h3) (fun i u c hu hc => (h6 i u c (by simpa using hu) hc).2) hs hn
  refine ⟨fun x => x = b ∨ ∃ i, i < ds.length ∧ fs i x, by rw [h1]; exact .cellp b cur e ds fs _ h2 b1 h5 (fun _ => Iff.rfl), ?_, b3⟩
  rintro x (rfl | ⟨i, hi, hx⟩)
  · exact ⟨id, _, List.mem_cons_self, hh, (h4 _).2 rfl⟩
  · exact (b2 i x hi hx).mono fun i hi => List.mem_cons_of_mem _ hi

theorem shutV_rel (m : Mem cx h ep g w) {u : Value} {c d : AV} {is : List Nat} (hr : SRel cx.num w cx.R g h ep u c) (hs : shutV h c = some (d, is)) (hn : is.Nodup) :
    ∃ S, Shut w g.I g.N u d S ∧ (∀ x, S x → Fp h g is x) ∧ d.isTup = false := by
  by_cases hv : ∃ cs, c = .agg cs
  · obtain ⟨cs, rfl⟩ := hv
    simp only [shutV] at hs
    cases h2 : shutL h cs with
    | none => rw [h2] at hs; cases hs
    | some q =>
      obtain ⟨ds, i2⟩ := q
      rw [h2] at hs
      simp only [Option.some.injEq, Prod.mk.injEq] at hs
      obtain ⟨rfl, rfl⟩ := hs
      cases hr with
      | agg us _ hl h1 hc =>
        obtain ⟨fs, b1, b2, b3⟩ := shutL_rel m (us := us.toList) (by simpa using hl) (fun i u c hu hcc => hc i u c (by simpa using hu) hcc) h2 hn
        exact ⟨fun x => ∃ i, i < ds.length ∧ fs i x, .agg us ds fs _ b1 (fun _ => Iff.rfl), fun x ⟨i, hi, hx⟩ => b2 i x hi hx, rfl⟩
  · by_cases hp : ∃ id, c = .ptr id 0 0
    · obtain ⟨id, rfl⟩ := hp
      simp only [shutV] at hs
      cases hh : h id with
      | none => rw [hh] at hs; cases hs
      | some ob =>
        rw [hh] at hs
        cases ob <;> simp only [reduceCtorEq] at hs
        rename_i cells
        cases h2 : shutL h cells with
        | none => rw [h2] at hs; cases hs
        | some q =>
          obtain ⟨ds, i2⟩ := q
          rw [h2] at hs
          simp only [Option.some.injEq, Prod.mk.injEq] at hs
          obtain ⟨rfl, rfl⟩ := hs
          obtain ⟨S, h3, h4, _⟩ := box_shut m hh h2 (List.nodup_cons.1 hn).2
          cases hr with
          | ptr _ _ _ _ h1 hu hv' =>
            obtain ⟨b, h5, h6⟩ := hv' _ hh
            rw [h6, ← h5]
            exact ⟨S, h3, h4, rfl⟩
    · have e1 : shutV h c = shut1 h c := by
        cases c <;> first | rfl | exact absurd ⟨_, rfl⟩ hv | skip
        rename_i id i off
        cases i <;> cases off <;> first | rfl | exact absurd ⟨_, rfl⟩ hp
      rw [e1] at hs
      obtain ⟨S, h1, h2, h3, _⟩ := shut1_rel m hr hs
      refine ⟨S, .one _ _ _ h1 h3, h2, ?_⟩
      cases h1 <;> rfl

theorem shutT_rel (m : Mem cx h ep g w) : ∀ {us : List Value} {cs ds : List AV} {is : List Nat}, us.length = cs.length → (∀ (i : Nat) (u : Value) (c : AV), us[i]? = some u → cs[i]? = some c → SRel cx.num w cx.R g h ep u c) → shutT h cs = some (ds, is) → is.Nodup →
    ∃ fs, ShutL w g.I g.N us ds fs ∧ (∀ i x, i < ds.length → fs i x → Fp h g is x) ∧ ∀ d ∈ ds, d.isTup = false
  | [], [], ds, is, _, _, hs, _ => by
    simp only [shutT, Option.some.injEq, Prod.mk.injEq] at hs
    obtain ⟨rfl, rfl⟩ := hs
    exact ⟨fun _ _ => False, ⟨rfl, fun i u c hu => by simp at hu, fun i j x hi => by simp at hi⟩, fun i x hi => by simp at hi, by simp⟩
  | [], _ :: _, _, _, hl, _, _, _ => by simp at hl
  | _ :: _, [], _, _, hl, _, _, _ => by simp at hl
  | u :: us, c :: cs, ds, is, hl, hr, hs, hn => by
    simp only [shutT] at hs
    cases h1 : shutV h c with
    | none => rw [h1] at hs; cases hs
    | some p =>
      obtain ⟨d, i1⟩ := p
      rw [h1] at hs
      simp only at hs
      cases h2 : shutT h cs with
      | none => rw [h2] at hs; cases hs
      | some q =>
        obtain ⟨ds', i2⟩ := q
        rw [h2] at hs
        simp only [Option.some.injEq, Prod.mk.injEq] at hs
        obtain ⟨rfl, rfl⟩ := hs
        obtain ⟨n1, n2, n3⟩ := List.nodup_append.1 hn
        obtain ⟨S, a1, a2, a3⟩ := shutV_rel m (hr 0 u c rfl rfl) h1 n1
        obtain ⟨fs, b1, b2, b3⟩ := shutT_rel m (by simpa using hl) (fun i v e hv he => hr (i + 1) v e (by simpa using hv) (by simpa using he)) h2 n2
        have hdis : ∀ i ∈ i1, i ∉ i2 := fun i h3 h4 => n3 i h3 i h4 rfl
        refine ⟨fun k => match k with | 0 => S | k + 1 => fs k, ⟨by simp [b1.size], fun k v e hv he => ?_, fun k l x hk hl' hx hx' => ?_⟩, fun k x hk hx => ?_, fun e he => ?_⟩
        · cases k with
          | zero => simp only [List.getElem?_cons_zero, Option.some.injEq] at hv he; subst hv; subst he; exact a1
          | succ k => exact b1.sh k v e (by simpa using hv) (by simpa using he)
        · cases k with
          | zero => cases l with
            | zero => rfl
            | succ l => exact (Fp.apart m hdis (a2 x hx) (b2 l x (by simpa using hl') hx')).elim
          | succ k => cases l with
            | zero => exact (Fp.apart m hdis (a2 x hx') (b2 k x (by simpa using hk) hx)).elim
            | succ l => exact congrArg (· + 1) (b1.dis k l x (by simpa using hk) (by simpa using hl') hx hx')
        · cases k with
          | zero => exact (a2 x hx).mono fun i hi => List.mem_append.2 (.inl hi)
          | succ k => exact (b2 k x (by simpa using hk) hx).mono fun i hi => List.mem_append.2 (.inr hi)
        · rcases List.mem_cons.1 he with rfl | he
          · exact a3
          · exact b3 e he

/-! ### What was given, at the end -/
def innerIds (h : Nat → Option AO) (k : Nat) : List Nat :=
  match h k with
  | some (.box cells) => match shutL h cells with
    | some (_, is) => is
    | none => []
  | _ => []

theorem shutBoxes_spec : ∀ {n i : Nat} {js : List Nat}, shutBoxes h i n = some js → js = (List.range' i n).flatMap (innerIds h) ∧ ∀ k cells, i ≤ k → k < i + n → h k = some (.box cells) → ∃ ds, shutL h cells = some (ds, innerIds h k)
  | 0, i, js, hs => by
    simp only [shutBoxes, Option.some.injEq] at hs
    subst hs
    exact ⟨by simp, fun k cells h1 h2 => by omega⟩
  | n + 1, i, js, hs => by
    have other : (∀ cells, h i ≠ some (.box cells)) → shutBoxes h i (n + 1) = shutBoxes h (i + 1) n := fun hn => by
      rw [shutBoxes]
      cases ho : h i with
      | none => rfl
      | some o =>
        cases o with
        | box cells => exact absurd ho (hn _)
        | arr _ _ => rfl
        | map _ _ => rfl
    by_cases hb : ∃ cells, h i = some (.box cells)
    · obtain ⟨cells, ho⟩ := hb
      simp only [shutBoxes, ho] at hs
      cases h1 : shutL h cells with
      | none => rw [h1] at hs; cases hs
      | some p =>
        obtain ⟨ds, is⟩ := p
        rw [h1] at hs
        simp only at hs
        cases h2 : shutBoxes h (i + 1) n with
        | none => rw [h2] at hs; cases hs
        | some js' =>
          rw [h2] at hs
          simp only [Option.some.injEq] at hs
          subst hs
          obtain ⟨h3, h4⟩ := shutBoxes_spec h2
          have hin : innerIds h i = is := by simp [innerIds, ho, h1]
          refine ⟨by rw [List.range'_succ, List.flatMap_cons, hin, h3], fun k c hk1 hk2 hk3 => ?_⟩
          by_cases hki : k = i
          · subst hki
            rw [ho] at hk3
            cases hk3
            exact ⟨ds, by rw [hin]; exact h1⟩
          · exact h4 k c (by omega) (by omega) hk3
    · have hn : ∀ cells, h i ≠ some (.box cells) := fun cells e => hb ⟨cells, e⟩
      rw [other hn] at hs
      obtain ⟨h3, h4⟩ := shutBoxes_spec hs
      have hin : innerIds h i = [] := by
        unfold innerIds
        cases ho : h i with
        | none => rfl
        | some o =>
          cases o with
          | box cells => exact absurd ho (hn _)
          | arr _ _ => rfl
          | map _ _ => rfl
      refine ⟨by rw [List.range'_succ, List.flatMap_cons, hin, h3]; rfl, fun k c hk1 hk2 hk3 => ?_⟩
      by_cases hki : k = i
      · subst hki; exact absurd hk3 (hn _)
      · exact h4 k c (by omega) (by omega) hk3

theorem outsOf_get {gone : List Nat} : ∀ {n i k : Nat}, k < n → (outsOf h gone i n)[k]? = some (outOf h gone (i + k))
  | 0, i, k, hk => by omega
  | n + 1, i, k, hk => by
    cases k with
    | zero => simp only [outsOf, List.getElem?_cons_zero, Nat.add_zero]
    | succ k =>
      have := outsOf_get (gone := gone) (n := n) (i := i + 1) (k := k) (by omega)
      simp only [outsOf, List.getElem?_cons_succ]
      rw [this, show i + 1 + k = i + (k + 1) by omega]

theorem outsOf_length {gone : List Nat} : ∀ (n i : Nat), (outsOf h gone i n).length = n
  | 0, _ => rfl
  | n + 1, i => by simp [outsOf, outsOf_length n (i + 1)]

/-- The whole of what a call leaves. -/
theorem end_post (m : Mem cx h ep g w) {us : List Value} {vs ws : List AV} {is js : List Nat} (hl : us.length = vs.length) (hr : ∀ (i : Nat) (u : Value) (c : AV), us[i]? = some u → vs[i]? = some c → SRel cx.num w cx.R g h ep u c)
    (hs : shutT h vs = some (ws, is)) (hb : shutBoxes h 0 cx.base = some js) (hd : distinct (is ++ js) = true) (hold : ∀ i ∈ is ++ js, ∀ cells, h i = some (.box cells) → cx.base ≤ i) :
    ∃ I N S fo, Post cx w (if hz : us.length = 1 then us[0]'(by omega) else .tuple us.toArray) (match ws with | [v] => v | ws => .tup ws) (outsOf h (is ++ js) 0 cx.base) I N S fo := by
  have hnd := distinct_nodup hd
  obtain ⟨n1, n2, n3⟩ := List.nodup_append.1 hnd
  obtain ⟨fs, b1, b2, b3⟩ := shutT_rel m hl hr hs n1
  obtain ⟨hjs, hbx⟩ := shutBoxes_spec hb
  have hinner : ∀ k, k < cx.base → ∀ i ∈ innerIds h k, i ∈ js := fun k hk i hi => by
    rw [hjs]; exact List.mem_flatMap.2 ⟨k, by rw [List.mem_range'_1]; omega, hi⟩
  have hinnd : ∀ k, k < cx.base → (innerIds h k).Nodup := fun k hk => by
    have h1 := List.pairwise_flatMap.1 (hjs ▸ n2)
    exact h1.1 k (by rw [List.mem_range'_1]; omega)
  have hindis : ∀ k l, k < cx.base → l < cx.base → k ≠ l → ∀ i ∈ innerIds h k, i ∉ innerIds h l := fun k l hk hl' hne i hi hi' => by
    have h1 := (List.pairwise_flatMap.1 (hjs ▸ n2)).2
    have hpw := List.pairwise_iff_getElem.1 h1
    rcases Nat.lt_or_gt_of_ne hne with hlt | hlt
    · exact hpw k l (by simpa using hk) (by simpa using hl') hlt i (by simpa using hi) i (by simpa using hi') rfl
    · exact hpw l k (by simpa using hl') (by simpa using hk) hlt i (by simpa using hi') i (by simpa using hi) rfl
  have houtgone : ∀ k o, k < cx.base → outOf h (is ++ js) k = some o → k ∉ is ++ js := by
    intro k o hk ho hm
    unfold outOf at ho
    cases hh : h k with
    | none => rw [hh] at ho; cases ho
    | some ob =>
      rw [hh] at ho
      cases ob with
      | box cells => have := hold k hm cells hh; omega
      | arr sz xs =>
        have : (is ++ js).contains k = true := by simpa using hm
        simp [this] at ho
        simp at hm
        rcases hm with hm | hm
        · exact absurd hm ho.1.1
        · exact absurd hm ho.1.2
      | map kb kvs => cases ho
  have hFpS : ∀ x, (∃ i, i < ws.length ∧ fs i x) → Fp h g is x := fun x ⟨i, hi, hx⟩ => b2 i x hi hx
  have hmine : ∀ ids x, Fp h g ids x → (cx.M x ∨ cx.w0.heap.size ≤ x) ∧ ¬ g.I x := fun ids x ⟨i, o, _, ho, hf⟩ => m.mine i o x ho hf
  -- the footprints of what comes back
  have hex : ∀ k, ∃ S : Nat → Prop, (∀ o, k < cx.base → outOf h (is ++ js) k = some o → Shut w g.I g.N (cx.v0 k) o.av S ∧ ∃ o0, cx.h0 k = some o0 ∧ o0.alike o) ∧ ∀ x, S x → Fp h g (k :: innerIds h k) x ∧ ∃ o, outOf h (is ++ js) k = some o := by
    intro k
    by_cases hkb : k < cx.base
    · cases hout : outOf h (is ++ js) k with
      | none => exact ⟨fun _ => False, fun o _ ho => (nomatch ho), fun _ hx => hx.elim⟩
      | some o =>
        have ho' := hout
        unfold outOf at ho'
        cases hh : h k with
        | none => rw [hh] at ho'; cases ho'
        | some ob =>
          rw [hh] at ho'
          obtain ⟨o0, g1, g2, g3⟩ := m.given k ob hkb hh
          cases ob with
          | box cells =>
            simp only at ho'
            obtain ⟨ds, hds⟩ := hbx k cells (Nat.zero_le _) (by omega) hh
            rw [hds] at ho'
            simp only [Option.some.injEq] at ho'
            subst ho'
            obtain ⟨S, h1, h2, _⟩ := box_shut m hh hds (hinnd k hkb)
            refine ⟨S, fun o1 _ he => ?_, fun x hx => ⟨h2 x hx, _, rfl⟩⟩
            obtain rfl := Option.some.inj he
            exact ⟨by rw [← g3]; exact h1, o0, g1, AO.alike.trans (p := .box cells) g2 trivial⟩
          | arr sz xs =>
            simp only at ho'
            split at ho'
            · cases ho'
            · simp only [Option.some.injEq] at ho'
              subst ho'
              obtain ⟨h1, h2⟩ := m.objs k _ hh
              refine ⟨g.fp k, fun o1 _ he => ?_, fun x hx => ⟨⟨k, _, List.mem_cons_self, hh, hx⟩, _, rfl⟩⟩
              obtain rfl := Option.some.inj he
              exact ⟨by rw [← g3]; exact .one _ _ _ h1 h2, o0, g1, g2⟩
          | map kb kvs => cases ho'
    · exact ⟨fun _ => False, fun o hk => absurd hk hkb, fun _ hx => hx.elim⟩
  refine ⟨g.I, g.N, fun x => ∃ i, i < ws.length ∧ fs i x, fun k => (hex k).choose, m.frame, outsOf_length _ _, m.I_up, m.I_new, m.I_N, m.N_up, m.N_new, m.N_lt, ?_, ?_, fun x hx => hmine is x (hFpS x hx), fun k x _ hx => hmine _ x ((hex k).choose_spec.2 x hx).1, ?_, ?_⟩
  · have hlw := b1.size
    cases ws with
    | nil =>
      have hz : ¬ us.length = 1 := by simp at hlw; simp [hlw]
      rw [dif_neg hz]
      exact .tup _ _ fs _ (by simpa using b1) (fun x => Iff.rfl)
    | cons v rest =>
      cases rest with
      | nil =>
        have hz : us.length = 1 := by simpa using hlw
        rw [dif_pos hz]
        have hz0 : 0 < us.length := by omega
        have h1 := b1.sh 0 us[0] v (List.getElem?_eq_getElem hz0) rfl
        refine .one _ _ _ ?_ (b3 v List.mem_cons_self)
        have he : (fun x => ∃ i, i < [v].length ∧ fs i x) = fs 0 := funext fun x => propext ⟨fun ⟨i, hi, hx⟩ => by
          have : i = 0 := by simpa using hi
          subst this; exact hx, fun hx => ⟨0, by simp, hx⟩⟩
        rw [he]
        exact h1
      | cons v2 rest =>
        have hz : ¬ us.length = 1 := by simp at hlw; omega
        rw [dif_neg hz]
        exact .tup _ _ fs _ (by simpa using b1) (fun x => Iff.rfl)
  · intro k o hk
    have hkb : k < cx.base := by
      have := (List.getElem?_eq_some_iff.1 hk).1
      rwa [outsOf_length] at this
    rw [outsOf_get hkb, Nat.zero_add] at hk
    exact (hex k).choose_spec.1 o hkb (Option.some.inj hk)
  · intro k x hk hx hf
    obtain ⟨h1, o, ho⟩ := (hex k).choose_spec.2 x hf
    have hng := houtgone k o hk ho
    refine Fp.apart m (fun i hi hi2 => ?_) (hFpS x hx) h1
    rcases List.mem_cons.1 hi2 with rfl | hi2
    · exact hng (List.mem_append.2 (.inl hi))
    · exact n3 i hi i (hinner k hk i hi2) rfl
  · intro k l x hk hl' hf hf'
    obtain ⟨h1, o, ho⟩ := (hex k).choose_spec.2 x hf
    obtain ⟨h2, o', ho'⟩ := (hex l).choose_spec.2 x hf'
    have hng := houtgone k o hk ho
    have hng' := houtgone l o' hl' ho'
    refine Classical.byContradiction fun hne => Fp.apart m (fun i hi hi2 => ?_) h1 h2
    rcases List.mem_cons.1 hi with rfl | hi <;> rcases List.mem_cons.1 hi2 with rfl | hi2
    · exact hne rfl
    · exact hng (List.mem_append.2 (.inr (hinner l hl' _ hi2)))
    · exact hng' (List.mem_append.2 (.inr (hinner k hk _ hi)))
    · exact hindis k l hk hl' hne i hi hi2
end
end Go.Proofs.Ytfebkfeobdffjaa
