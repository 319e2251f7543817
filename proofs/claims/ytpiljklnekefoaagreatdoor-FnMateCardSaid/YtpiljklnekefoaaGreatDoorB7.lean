/- A mate stays valid: its ticks and what it takes (plain). · Draws: a tick, a parcel that a mate takes. · A mate's tick and take: sizes (plain). · The laws' own equalities of books and parcels, at one thing and itself. · A mate's tick (impl.MateTick). · A mate's tick (impl.MateTick): its runs' lives; the whole. · FnMate: the plain law. · The library's functions: that a program's own do as YtpiljklnekefoaaGreatDoorLib says where their contracts hold. -/
import Derived.Test.YtpiljklnekefoaaGreatDoorB6
import Derived.Test.YtpiljklnekefoaaGreatDoorB5
import Derived.Test.YtpiljklnekefoaaGreatDoorB4
import Derived.Test.YtpiljklnekefoaaGreatDoorB1
import Derived.Lib.SplitLaws
namespace Go.Proofs.YtpiljklnekefoaaGreatDoor
open Go
set_option linter.unusedSimpArgs false

structure RunIs (r : Run) (c : Int) : Prop where
  want : wantOk r.want = true
  state : 1 ≤ r.state ∧ r.state ≤ 6
  left : 0 ≤ r.left ∧ r.left ≤ 100
  rest : r.state = 2 → r.left = 0
  falls : 0 ≤ r.falls ∧ r.falls ≤ 1000
  til : 0 ≤ r.til ∧ r.til ≤ 1000016
  free : r.want.hold = ⟨#[]⟩ → r.til = 0
  lease : alive r = true → r.want.hold ≠ ⟨#[]⟩ → c + 4 ≤ r.til

theorem leased_iff {r : Run} {c : Int} (hc : 0 ≤ c ∧ c ≤ 1000000) : leased r c = true ↔ (r.want.hold ≠ ⟨#[]⟩ → c + 4 ≤ r.til) := by
  have w : IntKind.i64.wrap (c + 4) = c + 4 := i64w (by omega) (by omega)
  simp only [leased, leasedB, w, Bool.or_eq_true, decide_eq_true_eq, sEq_iff]
  constructor
  · intro h hn
    rcases h with h | h
    · exact absurd h hn
    · exact h
  · intro h
    by_cases q : r.want.hold = ⟨#[]⟩
    · exact .inl q
    · exact .inr (h q)

theorem runIs_iff {r : Run} {c : Int} (hc : 0 ≤ c ∧ c ≤ 1000000) : runOk r c = true ↔ RunIs r c := by
  have hl := leased_iff (r := r) hc
  constructor
  · intro h
    simp only [runOk, Bool.and_eq_true, inR, decide_eq_true_eq] at h
    obtain ⟨h1, h2, h3, h4, h5, h6, h7, h8⟩ := h
    refine ⟨h1, h2, h3, fun e => ?_, h5, h6, fun e => ?_, fun e hn => ?_⟩
    · simpa [e] using h4
    · simpa [(sEq_iff _ _).2 e] using h7
    · simp only [e, Bool.not_true, Bool.false_or] at h8
      exact hl.1 h8 hn
  · intro h
    simp only [runOk, Bool.and_eq_true, inR, decide_eq_true_eq]
    refine ⟨h.want, h.state, h.left, ?_, h.falls, h.til, ?_, ?_⟩
    · by_cases e : r.state = 2
      · simp [e, h.rest e]
      · simp [e]
    · by_cases e : r.want.hold = ⟨#[]⟩
      · simp [h.free e]
      · simp [sEq_ne e]
    · cases e : alive r
      · rfl
      · simp only [Bool.not_true, Bool.false_or]
        exact hl.2 (h.lease e)

theorem RunIs.wd {r : Run} {c c' : Int} (h : RunIs r c) (hc : 0 ≤ c' ∧ c' ≤ 1000000) : RunIs (wd c' r) c' := by
  unfold YtpiljklnekefoaaGreatDoor.wd
  split
  · exact ⟨h.want, by simp, by simp, fun _ => rfl, h.falls, h.til, h.free, fun e => by simp [alive] at e⟩
  · rename_i q
    refine ⟨h.want, h.state, h.left, h.rest, h.falls, h.til, h.free, fun e => ?_⟩
    simp only [e, Bool.true_and, Bool.not_eq_true', Bool.not_eq_false] at q
    exact (leased_iff hc).1 q

theorem wantOk_parts {w : Want} (h : wantOk w = true) : isName w.copy = true ∧ (w.hold = ⟨#[]⟩ ∨ isHold w.hold = true) ∧ (0 ≤ w.pull ∧ w.pull ≤ 100) ∧ (0 ≤ w.start ∧ w.start ≤ 100) ∧ (0 ≤ w.dies ∧ w.dies ≤ 100) ∧ (0 ≤ w.grace ∧ w.grace ≤ 100) := by
  simp only [wantOk, Bool.and_eq_true, Bool.or_eq_true, inR, decide_eq_true_eq, sEq_iff] at h
  obtain ⟨⟨⟨⟨⟨⟨h1, h2⟩, h3⟩, h4⟩, h5⟩, h6⟩, h7⟩ := h
  exact ⟨h1, h3, h4, h5, h6, h7⟩

theorem leftOf_in (f : Int) : 0 ≤ leftOf f ∧ leftOf f ≤ 100 := by
  unfold leftOf
  repeat' split
  all_goals omega
theorem fallsUp_in {f : Int} (h : 0 ≤ f ∧ f ≤ 1000) : 0 ≤ fallsUp f ∧ fallsUp f ≤ 1000 := by
  unfold fallsUp
  split <;> omega

theorem RunIs.begin {r : Run} {c : Int} (h : RunIs r c) (hc : 0 ≤ c ∧ c ≤ 1000000) : RunIs (beginR r c) c := by
  obtain ⟨_, _, _, hs, _, _⟩ := wantOk_parts h.want
  unfold beginR
  split
  · rename_i q
    exact ⟨h.want, by simp, hs, fun e => by simp at e, h.falls, h.til, h.free, fun _ => (leased_iff hc).1 q⟩
  · exact ⟨h.want, by simp, by simp, fun _ => rfl, h.falls, h.til, h.free, fun e => by simp [alive] at e⟩

theorem RunIs.live {r r' : Run} {w : Want} {b : Bool} {c : Int} (h : RunIs r c) (hc : 0 ≤ c ∧ c ≤ 1000000) (e : mateLive r w b c = some r') : RunIs r' c ∧ r'.want = r.want := by
  obtain ⟨_, _, _, _, hd, hg⟩ := wantOk_parts h.want
  unfold mateLive at e
  split at e
  · split at e
    · rename_i ha
      rw [← Option.some.inj e]
      exact ⟨⟨h.want, by simp, hg, fun e => by simp at e, h.falls, h.til, h.free, fun _ => h.lease ha⟩, rfl⟩
    · cases e
  split at e
  · rename_i q
    rw [← Option.some.inj e]
    have := h.left
    exact ⟨⟨h.want, h.state, by simp only; omega, fun e => absurd e q.1, h.falls, h.til, h.free, fun e => h.lease e⟩, rfl⟩
  split at e
  · rename_i q
    rw [← Option.some.inj e]
    exact ⟨⟨h.want, by simp, hd, fun e => by simp at e, h.falls, h.til, h.free, fun _ => h.lease (by simp [alive, aliveS, q])⟩, rfl⟩
  split at e
  · split at e
    · rw [← Option.some.inj e]
      exact ⟨⟨h.want, by simp [dies], leftOf_in _, fun e => by simp [dies] at e, fallsUp_in h.falls, h.til, h.free, fun e => by simp [dies, alive, aliveS] at e⟩, rfl⟩
    · rw [← Option.some.inj e]
      exact ⟨h, rfl⟩
  split at e
  · cases e
  split at e
  · rw [← Option.some.inj e]
    exact ⟨h.begin hc, by unfold beginR; split <;> rfl⟩
  · rw [← Option.some.inj e]
    exact ⟨h, rfl⟩

structure AskIs (a : Ask) (c : Int) : Prop where
  hold : isHold a.hold = true
  copy : isName a.copy = true
  first : 0 ≤ a.first
  order : a.first ≤ a.at_
  at_ : a.at_ ≤ c
theorem askIs_iff {a : Ask} {c : Int} : askOk c a = true ↔ AskIs a c := by
  simp only [askOk, Bool.and_eq_true, decide_eq_true_eq]
  exact ⟨fun h => ⟨h.1, h.2.1, h.2.2.1, h.2.2.2.1, h.2.2.2.2⟩, fun h => ⟨h.hold, h.copy, h.first, h.order, h.at_⟩⟩
structure AsksIs (l : List Ask) (c : Int) : Prop where
  len : l.length ≤ 40
  all : ∀ a ∈ l, AskIs a c
  asc : Asc Ask.k l
theorem asksIs_iff {l : List Ask} {c : Int} : asksOk l c = true ↔ AsksIs l c := by
  rw [asksOk_iff]
  exact ⟨fun h => ⟨h.1, fun a ha => askIs_iff.1 (h.2.1 a ha), h.2.2⟩, fun h => ⟨h.len, fun a ha => askIs_iff.2 (h.all a ha), h.asc⟩⟩
theorem AsksIs.later {l : List Ask} {c c' : Int} (h : AsksIs l c) (hc : c ≤ c') : AsksIs l c' :=
  ⟨h.len, fun a ha => ⟨(h.all a ha).hold, (h.all a ha).copy, (h.all a ha).first, (h.all a ha).order, Int.le_trans (h.all a ha).at_ hc⟩, h.asc⟩
theorem AsksIs.drop {l : List Ask} {c : Int} (h : AsksIs l c) (k : T) : AsksIs (dropHold l k) c :=
  ⟨Nat.le_trans (List.length_filter_le _ _) h.len, fun a ha => h.all a (List.mem_filter.1 ha).1, h.asc.filter _⟩
theorem AsksIs.put {l : List Ask} {c : Int} (h : AsksIs l c) {a : Ask} (ha : AskIs a c) (hl : l.length < 40) : AsksIs (putBy Ask.k a l) c :=
  ⟨by have := putBy_len Ask.k a l; omega, fun b hb => by
    rcases mem_putBy Ask.k hb with rfl | hb
    · exact ha
    · exact h.all b hb, putBy_asc Ask.k h.asc⟩

def ApartIs (x y : List Ask) : Prop := ∀ a ∈ x, ∀ b ∈ y, a.hold ≠ b.hold
theorem apart_iff {x y : List Ask} : apartGo y x = true ↔ ApartIs x y := by
  unfold apartGo ApartIs
  rw [List.all_eq_true]
  constructor
  · intro h a ha b hb e
    have := h a ha
    simp only [decide_eq_true_eq] at this
    rcases askAt_spec y a.hold with ⟨_, hno⟩ | ⟨k, hk, e1, _⟩
    · have := hno b hb
      rw [(sEq_iff _ _).2 e.symm] at this
      cases this
    · omega
  · intro h a ha
    simp only [decide_eq_true_eq]
    rcases askAt_spec y a.hold with ⟨e1, _⟩ | ⟨k, hk, e1, e2, _⟩
    · omega
    · exact absurd ((sEq_iff _ _).1 e2).symm (h a ha _ (List.getElem_mem hk))

structure MateIs (m : Mate) : Prop where
  name : isName m.name = true
  clock : 0 ≤ m.clock ∧ m.clock ≤ 1000000
  seen : 0 ≤ m.seen ∧ m.seen ≤ 1000000
  wants : wantsOk m.wants = true
  known : m.known = true ∨ m.wants = []
  runsN : m.runs.length ≤ 20
  runs : ∀ r ∈ m.runs, RunIs r m.clock
  asc : Asc Run.k m.runs
  asks : AsksIs m.asks m.clock
  gives : AsksIs m.gives m.clock
  apart : ApartIs m.asks m.gives
  down : m.up = true ∨ (m.known = false ∧ m.asks = [] ∧ m.gives = [] ∧ m.seen = 0 ∧ ∀ r ∈ m.runs, alive r = true ∨ r.want.hold ≠ ⟨#[]⟩)

theorem mateIs_iff {m : Mate} : mateValid m = true ↔ MateIs m := by
  rw [mateValid_iff, mateParts_iff, runsOk_iff, asksIs_iff, asksIs_iff, apart_iff]
  simp only [mateDown, downRuns, Bool.and_eq_true, Bool.not_eq_true', List.isEmpty_iff, beq_iff_eq, List.all_eq_true, Bool.or_eq_true, inR, decide_eq_true_eq]
  constructor
  · rintro ⟨⟨h1, h2, h3, h4, h5, ⟨r1, r2, r3⟩, h7, h8⟩, h9, h10⟩
    refine ⟨h1, h2, h3, h4, h5, r1, fun r hr => (runIs_iff h2).1 (r2 r hr), r3, h7, h8, h9, ?_⟩
    rcases h10 with h | ⟨a1, ⟨a2, a3⟩, a4, a5⟩
    · exact .inl h
    · refine .inr ⟨a1, a2, a3, a4, fun r hr => ?_⟩
      rcases a5 r hr with h | h
      · exact .inl h
      · refine .inr fun e => ?_
        rw [(sEq_iff _ _).2 e] at h
        cases h
  · intro h
    refine ⟨⟨h.name, h.clock, h.seen, h.wants, h.known, ⟨h.runsN, fun r hr => (runIs_iff h.clock).2 (h.runs r hr), h.asc⟩, h.asks, h.gives⟩, h.apart, ?_⟩
    rcases h.down with q | ⟨a1, a2, a3, a4, a5⟩
    · exact .inl q
    · refine .inr ⟨a1, ⟨a2, a3⟩, a4, fun r hr => ?_⟩
      rcases a5 r hr with q | q
      · exact .inl q
      · exact .inr (sEq_ne q)

theorem tickOn_is {m : Mate} {rate : Int} (h : MateIs m) (h0 : 0 ≤ rate) (hc : m.clock + rate ≤ 1000000) : MateIs (tickOn m rate) := by
  have hk := h.clock
  have hc' : 0 ≤ m.clock + rate ∧ m.clock + rate ≤ 1000000 := ⟨by omega, hc⟩
  refine ⟨h.name, hc', h.seen, h.wants, h.known, by simpa [tickOn] using h.runsN, fun r hr => ?_, wd_asc h.asc, h.asks.later (by simp only [tickOn]; omega), h.gives.later (by simp only [tickOn]; omega), h.apart, ?_⟩
  · obtain ⟨r0, k1, rfl⟩ := List.mem_map.1 hr
    exact (h.runs r0 k1).wd hc'
  · rcases h.down with q | ⟨a1, a2, a3, a4, a5⟩
    · exact .inl q
    · refine .inr ⟨a1, a2, a3, a4, fun r hr => ?_⟩
      obtain ⟨r0, k1, rfl⟩ := List.mem_map.1 hr
      rw [wd_want]
      by_cases q : r0.want.hold = ⟨#[]⟩
      · refine .inl ?_
        have ha := (a5 r0 k1).resolve_right (fun n => n q)
        have hl := (leased_iff (r := r0) hc').2 fun n => absurd q n
        simp [wd, ha, hl]
      · exact .inr q

structure LvIs (s : LV) (c : Int) : Prop where
  runs : ∀ r ∈ s.runs, RunIs r c
  asks : AsksIs s.asks c
  gives : AsksIs s.gives c
  apart : ApartIs s.asks s.gives

theorem giveUp_is {h : T} {s : LV} {c : Int} (hs : LvIs s c) : LvIs (giveUp h s) c := by
  unfold giveUp
  split
  · exact hs
  · split
    · exact hs
    · rename_i a e
      have ha := List.mem_of_find?_eq_some e
      have hh : a.hold = h := (sEq_iff _ _).1 (by simpa using List.find?_some e)
      refine ⟨hs.runs, hs.asks.drop h, ?_, ?_⟩
      · simp only
        split
        · exact hs.gives.put (hs.asks.all a ha) (by assumption)
        · exact hs.gives
      · intro x hx y hy
        obtain ⟨x1, x2⟩ := List.mem_filter.1 hx
        simp only at hy
        split at hy
        · rcases mem_putBy Ask.k hy with rfl | hy
          · intro q
            rw [(sEq_iff _ _).2 (q.trans hh)] at x2
            cases x2
          · exact hs.apart x x1 y hy
        · exact hs.apart x x1 y hy

theorem lives_go {c : Int} (hc : 0 ≤ c ∧ c ≤ 1000000) (ws : List Want) : ∀ (rs : List Run) (s : LV), (∀ r ∈ rs, RunIs r c) → LvIs s c → LvIs (rs.foldl (liveStep c ws) s) c
  | [], _, _, h => h
  | r :: rs, s, hr, h => by
    refine lives_go hc ws rs _ (fun r hm => hr r (List.mem_cons_of_mem _ hm)) ?_
    unfold liveStep
    split
    · rename_i n e
      refine ⟨fun x hx => ?_, h.asks, h.gives, h.apart⟩
      rcases List.mem_append.1 hx with hx | hx
      · exact h.runs x hx
      · rw [List.mem_singleton.1 hx]
        exact ((hr r List.mem_cons_self).live hc e).1
    · exact giveUp_is h

theorem newRun_is {w : Want} {c : Int} (h : wantOk w = true) : RunIs (newRun w) c := by
  obtain ⟨_, _, hp, _⟩ := wantOk_parts h
  exact ⟨h, by simp [newRun], hp, fun e => by simp [newRun] at e, by simp [newRun], by simp [newRun], fun _ => rfl, fun e => by simp [newRun, alive, aliveS] at e⟩

theorem addRuns_all {c : Int} : ∀ (ws : List Want) (rs : List Run), (∀ w ∈ ws, wantOk w = true) → (∀ r ∈ rs, RunIs r c) → ∀ r ∈ ws.foldl addRun rs, RunIs r c
  | [], _, _, h => h
  | w :: ws, rs, hw, h => by
    refine addRuns_all ws _ (fun x hx => hw x (List.mem_cons_of_mem _ hx)) fun r hr => ?_
    unfold addRun at hr
    split at hr
    · exact h r hr
    · rcases mem_putBy Run.k hr with rfl | hr
      · exact newRun_is (hw w List.mem_cons_self)
      · exact h r hr

theorem mLives_is {m : Mate} (h : MateIs m) (hu : m.up = true) : MateIs (mLives m) := by
  have h0 := lives_go h.clock m.wants m.runs ⟨[], m.asks, m.gives⟩ h.runs ⟨fun r hr => by simp at hr, h.asks, h.gives, h.apart⟩
  have h1 := livesOf_len m.clock m.wants m.runs ⟨[], m.asks, m.gives⟩
  have r := h.runsN
  obtain ⟨a1, a2⟩ := addRuns_is m.wants (livesOf m).runs (by unfold livesOf; simp only [List.length_nil] at h1; omega) (livesOf_asc h.asc)
  have hw := ((wantsOk_iff _).1 h.wants).2.1
  exact ⟨h.name, h.clock, h.seen, h.wants, h.known, a1, addRuns_all _ _ hw h0.runs, a2, h0.asks, h0.gives, h0.apart, .inl hu⟩

theorem asked_form {n : T} {c : Int} {r : Run} (hn : isName n = true) (hc : 0 ≤ c ∧ c ≤ 1000000) (h1 : isHold r.want.hold = true) (h2 : isName r.want.copy = true) : parcelForm (asked n c r) ≠ ⟨#[]⟩ := by
  intro e
  have := congrArg ByteArray.size e
  have z0 : (⟨#[]⟩ : T).size = 0 := rfl
  have z1 : (⟨#[10]⟩ : T).size = 1 := rfl
  simp [parcelForm, formSw, asked, hn, h1, h2, inR, hc.1, hc.2, word, app_size] at this
  omega
theorem back_form {n : T} {c : Int} {a : Ask} (hn : isName n = true) (hc : 0 ≤ c ∧ c ≤ 1000000) (h : AskIs a c) : parcelForm (backP n a) ≠ ⟨#[]⟩ := by
  intro e
  have := congrArg ByteArray.size e
  have z0 : (⟨#[]⟩ : T).size = 0 := rfl
  have z1 : (⟨#[10]⟩ : T).size = 1 := rfl
  have h1 := h.first
  have h2 := h.order
  have h3 := h.at_
  have h4 : 0 ≤ a.at_ := by omega
  have h5 : a.at_ ≤ 1000000 := by omega
  simp [parcelForm, formSw, backP, hn, h.hold, h.copy, inR, h4, h5, word, app_size] at this
  omega
theorem here_form {m : Mate} (hn : isName m.name = true) (hs : 0 ≤ m.seen ∧ m.seen ≤ 1000000) : parcelForm (hereP m) ≠ ⟨#[]⟩ := by
  intro e
  have := congrArg ByteArray.size e
  have z0 : (⟨#[]⟩ : T).size = 0 := rfl
  have z1 : (⟨#[10]⟩ : T).size = 1 := rfl
  simp [parcelForm, formSw, hereP, hn, noHold, inR, hs.1, hs.2, app_size, (sEq_iff (⟨#[]⟩ : T) _).2 rfl] at this
  omega

theorem asksHold_is {ws : List Want} {gs : List Ask} {r : Run} (h : asksHold ws gs r = true) (hw : wantOk r.want = true) : isHold r.want.hold = true ∧ isName r.want.copy = true ∧ ∀ b ∈ gs, b.hold ≠ r.want.hold := by
  simp only [asksHold, Bool.and_eq_true, Bool.not_eq_true', Option.isNone_iff_eq_none] at h
  obtain ⟨_, h2, h3⟩ := h
  obtain ⟨w1, w2, _⟩ := wantOk_parts hw
  refine ⟨w2.resolve_left fun e => ?_, w1, fun b hb e => ?_⟩
  · rw [(sEq_iff _ _).2 e] at h2; cases h2
  · have := List.find?_eq_none.1 h3 b hb
    exact this ((sEq_iff _ _).2 e)

theorem freshAsk_is {c : Int} {r : Run} {l : List Ask} {a : Ask} (hc : 0 ≤ c ∧ c ≤ 1000000) (e : freshAsk c r l = some a) (hl : AsksIs l c) (h1 : isHold r.want.hold = true) (h2 : isName r.want.copy = true) : AskIs a c ∧ a.hold = r.want.hold := by
  unfold freshAsk at e
  split at e
  · rename_i b eb
    have hb := hl.all b (List.mem_of_find?_eq_some eb)
    split at e
    · split at e
      · cases e
      · rw [← Option.some.inj e]
        exact ⟨⟨h1, h2, hb.first, Int.le_trans hb.order hb.at_, Int.le_refl _⟩, rfl⟩
    · rw [← Option.some.inj e]
      exact ⟨⟨h1, h2, hc.1, Int.le_refl _, Int.le_refl _⟩, rfl⟩
  · rw [← Option.some.inj e]
    exact ⟨⟨h1, h2, hc.1, Int.le_refl _, Int.le_refl _⟩, rfl⟩

theorem asks_go {m : Mate} (h : MateIs m) : ∀ (rs : List Run) (s : List Ask × List Parcel), (∀ r ∈ rs, RunIs r m.clock) → s.1.length + rs.length ≤ 40 → AsksIs s.1 m.clock → ApartIs s.1 m.gives → (∀ p ∈ s.2, parcelForm p ≠ ⟨#[]⟩) →
    AsksIs (rs.foldl (askStep m) s).1 m.clock ∧ ApartIs (rs.foldl (askStep m) s).1 m.gives ∧ ∀ p ∈ (rs.foldl (askStep m) s).2, parcelForm p ≠ ⟨#[]⟩
  | [], _, _, _, h1, h2, h3 => ⟨h1, h2, h3⟩
  | r :: rs, s, hr, hl, h1, h2, h3 => by
    rw [List.length_cons] at hl
    have hr0 := hr r List.mem_cons_self
    have hk : ((askStep m s r).1.length ≤ s.1.length + 1) ∧ AsksIs (askStep m s r).1 m.clock ∧ ApartIs (askStep m s r).1 m.gives ∧ ∀ p ∈ (askStep m s r).2, parcelForm p ≠ ⟨#[]⟩ := by
      unfold askStep
      split
      · rename_i q
        obtain ⟨q1, q2, q3⟩ := asksHold_is q hr0.want
        split
        · rename_i a e
          obtain ⟨a1, a2⟩ := freshAsk_is h.clock e h1 q1 q2
          refine ⟨putBy_len _ _ _, h1.put a1 (by omega), fun x hx y hy => ?_, fun p hp => ?_⟩
          · rcases mem_putBy Ask.k hx with rfl | hx
            · rw [a2]; exact (q3 y hy).symm
            · exact h2 x hx y hy
          · rcases List.mem_append.1 hp with hp | hp
            · exact h3 p hp
            · rw [List.mem_singleton.1 hp]
              exact asked_form h.name h.clock q1 q2
        · exact ⟨Nat.le_succ _, h1, h2, h3⟩
      · exact ⟨Nat.le_succ _, h1, h2, h3⟩
    exact asks_go h rs _ (fun r hm => hr r (List.mem_cons_of_mem _ hm)) (by omega) hk.2.1 hk.2.2.1 hk.2.2.2

theorem mAsks_is {m : Mate} (h : MateIs m) (hu : m.up = true) (ha : m.asks.length ≤ 20) : MateIs (mAsks m) ∧ ∀ p ∈ (asksOf m).2, parcelForm p ≠ ⟨#[]⟩ := by
  have r := h.runsN
  obtain ⟨a1, a2, a3⟩ := asks_go h m.runs (m.asks, []) h.runs (by simp only; omega) h.asks h.apart (fun p hp => by simp at hp)
  exact ⟨⟨h.name, h.clock, h.seen, h.wants, h.known, h.runsN, h.runs, h.asc, a1, h.gives, a2, .inl hu⟩, a3⟩

theorem tick_is {m : Mate} {rate : Int} (h : MateIs m) (ha : m.asks.length ≤ 20) :
    MateIs (mateTick m rate).1 ∧ m.clock ≤ (mateTick m rate).1.clock ∧ ∀ p ∈ (mateTick m rate).2, parcelForm p ≠ ⟨#[]⟩ := by
  have hv := mateIs_iff.2 h
  have hk := h.clock
  unfold mateTick
  rw [if_pos hv]
  split
  case isFalse => exact ⟨h, Int.le_refl _, fun p hp => by simp at hp⟩
  rename_i hr
  simp only [inR, Bool.and_eq_true, decide_eq_true_eq] at hr
  split
  · have hf := mateIs_iff.1 (fall_valid true hv)
    have ef : mateFall m true = { Mate.zero with name := m.name, clock := m.clock, runs := m.runs.filterMap (fallRun true) } := if_pos hv
    rw [ef] at hf ⊢
    have dead : ∀ r ∈ m.runs.filterMap (fallRun true), alive r = false := fun r hr => by
      obtain ⟨r0, k1, k2⟩ := List.mem_filterMap.1 hr
      simpa using (fallRun_ok ((runIs_iff hk).2 (h.runs r0 k1)) k2).2.2.2.1
    refine ⟨⟨hf.name, by simp, hf.seen, hf.wants, hf.known, hf.runsN, fun r hr => ?_, hf.asc, ?_, ?_, hf.apart, hf.down⟩, hk.2, fun p hp => by simp at hp⟩
    · have q := hf.runs r hr
      exact ⟨q.want, q.state, q.left, q.rest, q.falls, q.til, q.free, fun e => by rw [dead r hr] at e; cases e⟩
    · exact hf.asks.later hk.2
    · exact hf.gives.later hk.2
  rename_i hc
  have h1 := tickOn_is h (rate := rate) (by omega) (by omega)
  split
  case isFalse => exact ⟨h1, by simp only [tickOn]; omega, fun p hp => by simp at hp⟩
  rename_i hu
  have key : ∀ x : Mate, MateIs x → x.up = true → x.asks.length ≤ 20 → x.clock = m.clock + rate → MateIs (mAsks x) ∧ m.clock ≤ (mAsks x).clock ∧ ∀ p ∈ tickOut x, parcelForm p ≠ ⟨#[]⟩ := by
    intro x hx hxu hxa hxc
    obtain ⟨b1, b2⟩ := mAsks_is hx hxu hxa
    refine ⟨b1, by simp only [mAsks]; omega, fun p hp => ?_⟩
    simp only [tickOut, List.mem_append, List.mem_singleton, List.mem_map] at hp
    rcases hp with (hp | ⟨a, h3, rfl⟩) | rfl
    · exact b2 p hp
    · exact back_form hx.name hx.clock (hx.gives.all a h3)
    · exact here_form hx.name hx.seen
  unfold tickRuns
  split
  · refine key _ (mLives_is h1 hu) hu ?_ rfl
    exact Nat.le_trans (livesGo_len _ _ _ _).1 ha
  · exact key _ h1 hu ha rfl

theorem take_is {m : Mate} {p : Parcel} (h : MateIs m) : MateIs (mateTake m p) := by
  have hv := mateIs_iff.2 h
  have hk := h.clock
  unfold mateTake
  rw [if_pos hv]
  split
  case isFalse => exact h
  rename_i hu
  have hu : m.up = true := (Bool.and_eq_true_iff.1 hu).1
  unfold takeKind
  split
  · unfold takeTold
    split
    · rename_i q
      simp only [Bool.and_eq_true, inR, decide_eq_true_eq] at q
      exact ⟨h.name, h.clock, ⟨by have := q.2.2.1; simp only; omega, q.2.2.2⟩, q.2.1, .inl rfl, h.runsN, h.runs, h.asc, h.asks, h.gives, h.apart, .inl hu⟩
    · exact h
  split
  · unfold takeGiven
    split
    · rename_i a e
      have ha := h.asks.all a (List.mem_of_find?_eq_some e)
      have hh : a.hold = p.hold := (sEq_iff _ _).1 (by simpa using List.find?_some e)
      split
      · rename_i q
        simp only [askFits, Bool.and_eq_true, decide_eq_true_eq] at q
        have b1 := ha.first
        have b2 := ha.at_
        have w : IntKind.i64.wrap (p.at_ + 16) = p.at_ + 16 := i64w (by omega) (by omega)
        have hg : ∀ r : Run, RunIs r m.clock → RunIs (giveRun p r) m.clock := fun r hr => by
          unfold giveRun
          rw [w]
          split
          · rename_i g
            simp only [Bool.and_eq_true, decide_eq_true_eq, sEq_iff] at g
            refine ⟨hr.want, hr.state, hr.left, hr.rest, hr.falls, ⟨by simp only; omega, by simp only; omega⟩, fun e => ?_, fun e hn => ?_⟩
            · have h1 := ha.hold
              simp only at e
              rw [hh, ← g.1, e] at h1
              simp [isHold, isName_nil] at h1
            · have := hr.lease e hn
              simp only; omega
          · exact hr
        have hw : ∀ r, Run.k (giveRun p r) = Run.k r := fun r => by unfold giveRun Run.k; split <;> rfl
        refine ⟨h.name, h.clock, h.seen, h.wants, h.known, by simpa using h.runsN, fun r hr => ?_, ?_, h.asks, h.gives, h.apart, .inl hu⟩
        · obtain ⟨r0, k1, rfl⟩ := List.mem_map.1 hr
          exact hg r0 (h.runs r0 k1)
        · have hasc := h.asc
          rw [asc_map] at hasc ⊢
          rw [List.map_map]
          have e : Run.k ∘ giveRun p = Run.k := funext hw
          rw [e]; exact hasc
      · exact h
    · exact h
  split
  · unfold takeBack'
    split
    · split
      · exact ⟨h.name, h.clock, h.seen, h.wants, h.known, h.runsN, h.runs, h.asc, h.asks, h.gives.drop _, fun a ha b hb => h.apart a ha b (List.mem_filter.1 hb).1, .inl hu⟩
      · exact h
    · exact h
  · exact h
end Go.Proofs.YtpiljklnekefoaaGreatDoor

namespace Go.Proofs.YtpiljklnekefoaaGreatDoor
open Go
set_option linter.unusedSimpArgs false
set_option maxRecDepth 100000

theorem law270 (bs : List Int) (hl : bs.length ≤ 1000000000) (h : ∀ b ∈ bs, 0 ≤ b ∧ b ≤ 255) : ∃ (m : Mate) (r : Int), F 270 [.sl .imm 1 (bs.map rowB)] [] = some (.tup [.agg (m.c .own), .int .i64 r], []) ∧ Drawn m ∧ tame r := by
  have hb := Code.take h
  have w0 := law91 bs hl
  generalize bs.take 2000 = cs at hb w0
  obtain ⟨_, c1, x1, p1, rfl, c2, c3, m, rfl, hm⟩ := law116d cs 0 hb (by omega) (by omega)
  obtain ⟨a1, a2, a3⟩ := law89 cs p1 8 hb (by omega) (by omega) (by omega)
  have a4 := a3 (by omega)
  simp only [rdBox, Mate.c] at a1 c1
  refine ⟨m, selI [1, 2, 3, 4, 4, 1, 0, 5] (pickV cs p1 8), F_run fn270 rfl ?_, hm, selI_tame (by simp [tame]) _⟩
  simp [c270, w0, c1, a1, a2, a4]

theorem law271 (bs : List Int) (p : Int) (m : Mate) (hb : Code bs) (h0 : 0 ≤ p) (hp : p ≤ 800000000) (hm : Drawn m) : Ends (F 271 [.ptr 0 0 0, .agg (m.c .bor)] [rdBox bs p]) (Drew bs p 100 fun x => ∃ q : Parcel, x = .agg (q.c .own) ∧ q.wants.length ≤ 10) := by
  refine F_ends fn271 rfl ?_
  obtain ⟨a1, a2, a3⟩ := law89 bs p 8 hb h0 (by omega) (by omega)
  have a4 := a3 (by omega)
  obtain ⟨b1, b2, b3⟩ := law89 bs (p + 1) 10 hb (by omega) (by omega) (by omega)
  rw [show p + 1 + 1 = p + 2 by omega] at b1
  simp only [rdBox] at a1 b1
  have hQ : ∀ p' : Int, p ≤ p' → p' ≤ p + 100 → ∀ q : Parcel, q.wants.length ≤ 10 → Drew bs p 100 (fun x => ∃ q : Parcel, x = .agg (q.c .own) ∧ q.wants.length ≤ 10) (.agg (q.c .own), [some (rdBox bs p')]) := fun p' h1 h2 q h3 => ⟨_, p', rfl, h1, h2, q, rfl, h3⟩
  obtain ⟨K, hK⟩ : ∃ K, selI [1, 1, 3, 3, 3, 5, 2, 6] (pickV bs p 8) = K := ⟨_, rfl⟩
  obtain ⟨B, hB⟩ : ∃ B : T, B = if pickV bs (p + 1) 10 = 0 then ⟨#[98]⟩ else ⟨#[97]⟩ := ⟨_, rfl⟩
  by_cases k1 : K = 1
  · subst k1
    obtain ⟨c1, c2, c3⟩ := law89 bs (p + 2) 7 hb (by omega) (by omega) (by omega)
    rw [show p + 2 + 1 = p + 3 by omega] at c1
    obtain ⟨_, f1, x, p2, rfl, f2, f3, ws, rfl, f4, f5⟩ := law145 bs (p + 3) hb (by omega) (by omega)
    obtain ⟨d1, d2, d3⟩ := law89 bs p2 10 hb (by omega) (by omega) (by omega)
    simp only [rdBox] at c1 d1 f1
    rcases ws with _ | ⟨w, ws⟩
    · have q := hQ (p2 + 1) (by omega) (by omega) ⟨1, B, pickV bs (p + 2) 7, [], ⟨#[]⟩, ⟨#[]⟩, 0⟩ (by simp)
      simp only [rdBox, Parcel.c] at q
      by_cases e1 : pickV bs (p + 1) 10 = 0 <;> by_cases e2 : pickV bs p2 10 = 0 <;> simp [c271, rdBox, a1, a2, a4, b1, c1, d1, f1, hK, e1, e2] <;> simpa [hB, e1] using q
    · by_cases e2 : pickV bs p2 10 = 0
      · obtain ⟨w', p', g1, g2, g3, g4⟩ := law144 bs (p2 + 1) w hb (by omega) (by omega) (f5 w List.mem_cons_self)
        have q := hQ p' (by omega) (by omega) ⟨1, B, pickV bs (p + 2) 7, w' :: ws, ⟨#[]⟩, ⟨#[]⟩, 0⟩ (by simp at f4 ⊢; omega)
        simp only [rdBox, Parcel.c, Want.c] at q g1
        by_cases e1 : pickV bs (p + 1) 10 = 0 <;> simp [c271, rdBox, a1, a2, a4, b1, c1, d1, f1, hK, e1, e2, g1] <;> simpa [hB, e1] using q
      · have q := hQ (p2 + 1) (by omega) (by omega) ⟨1, B, pickV bs (p + 2) 7, w :: ws, ⟨#[]⟩, ⟨#[]⟩, 0⟩ (by simp at f4 ⊢; omega)
        simp only [rdBox, Parcel.c] at q
        by_cases e1 : pickV bs (p + 1) 10 = 0 <;> simp [c271, rdBox, a1, a2, a4, b1, c1, d1, f1, hK, e1, e2] <;> simpa [hB, e1] using q
  · obtain ⟨c1, c2, c3⟩ := law89 bs (p + 2) 3 hb (by omega) (by omega) (by omega)
    have c4 := c3 (by omega)
    obtain ⟨d1, d2, d3⟩ := law89 bs (p + 3) 4 hb (by omega) (by omega) (by omega)
    have d4 := d3 (by omega)
    obtain ⟨e1, e2, e3⟩ := law89 bs (p + 4) 60 hb (by omega) (by omega) (by omega)
    obtain ⟨t1, t2⟩ := law140' (pickV bs (p + 3) 4) d2 (by omega)
    have hna := hm.nasks
    have hng := hm.ngives
    obtain ⟨as', has⟩ : ∃ as', as' = m.asks ++ m.gives := ⟨_, rfl⟩
    have hla : as'.length ≤ 40 := by rw [has, List.length_append]; omega
    obtain ⟨g1, g2, g3⟩ := law89 bs (p + 5) 4 hb (by omega) (by omega) (by omega)
    obtain ⟨i1, i2, i3⟩ := law89 bs (p + 6) as'.length hb (by omega) (by omega) (by omega)
    obtain ⟨j1, j2, j3⟩ := law89 bs (p + 7) 4 hb (by omega) (by omega) (by omega)
    rw [show p + 2 + 1 = p + 3 by omega] at c1
    rw [show p + 3 + 1 = p + 4 by omega] at d1
    rw [show p + 4 + 1 = p + 5 by omega] at e1
    rw [show p + 5 + 1 = p + 6 by omega] at g1
    rw [show p + 6 + 1 = p + 7 by omega] at i1
    rw [show p + 7 + 1 = p + 8 by omega] at j1
    simp only [rdBox] at c1 d1 e1 g1 i1 j1
    have l1 : m.asks.length * 48 ≤ 140737488355328 := by omega
    have l2 : m.asks.length ≤ 140737488355328 := by omega
    have l3 : (m.asks.length + m.gives.length) * 48 ≤ 140737488355328 := by omega
    have l4 : m.asks.length + m.gives.length ≤ 140737488355328 := by omega
    have t3 : (⟨#[99]⟩ : T).size + (dec (pickV bs (p + 3) 4).toNat).size ≤ 9223372036854775807 := by
      have : (⟨#[99]⟩ : T).size = 1 := rfl
      omega
    obtain ⟨X, hX⟩ : ∃ X, X = pickV bs (p + 6) as'.length := ⟨_, rfl⟩
    rw [← hX] at i1 i2 i3
    by_cases n0 : 0 < (m.asks.length : Int) + m.gives.length
    · have hlen : (as'.length : Int) = m.asks.length + m.gives.length := by rw [has, List.length_append]; omega
      rw [hlen] at i1 i3
      by_cases n1 : 0 < pickV bs (p + 5) 4
      · have i4 := i3 (by omega)
        have j4 := j3 (by omega)
        obtain ⟨a, ha⟩ : ∃ a, as'[X.toNat]? = some a := ⟨_, List.getElem?_eq_getElem (by omega)⟩
        have hrow : ∀ h : X.toNat < (m.asks.map Ask.c ++ m.gives.map Ask.c).length, (m.asks.map Ask.c ++ m.gives.map Ask.c)[X.toNat]'h = [.str a.hold, .str a.copy, .int .i64 a.first, .int .i64 a.at_] := by
          intro h
          have e : (m.asks.map Ask.c ++ m.gives.map Ask.c)[X.toNat]? = some a.c := by rw [← List.map_append, ← has, List.getElem?_map, ha]; rfl
          rw [List.getElem?_eq_getElem h] at e
          exact Option.some.inj e
        have q := hQ (p + 8) (by omega) (by omega) ⟨K, B, 0, [], a.hold, a.copy, selI [a.at_, a.first, IntKind.i64.wrap (a.first - 1), IntKind.i64.wrap (a.at_ + 1)] (pickV bs (p + 7) 4)⟩ (by simp)
        simp only [rdBox, Parcel.c] at q
        by_cases b0 : pickV bs (p + 1) 10 = 0 <;> simp [c271, rdBox, a1, a2, a4, b1, c1, c2, c4, d1, t1, t3, e1, g1, i1, i2, i4, j1, j2, j4, hK, k1, b0, l1, l2, l3, l4, n0, n1, hrow, takeRows, AO.isArr] <;> simpa [hB, b0] using q
      · have q := hQ (p + 6) (by omega) (by omega) ⟨K, B, 0, [], selT [⟨#[105, 112]⟩, ⟨#[118, 111, 108]⟩, ⟨#[118, 111, 108, 50]⟩] (pickV bs (p + 2) 3), ⟨#[99]⟩ ++ dec (pickV bs (p + 3) 4).toNat, pickV bs (p + 4) 60⟩ (by simp)
        simp only [rdBox, Parcel.c] at q
        by_cases b0 : pickV bs (p + 1) 10 = 0 <;> simp [c271, rdBox, a1, a2, a4, b1, c1, c2, c4, d1, t1, t3, e1, g1, hK, k1, b0, l1, l2, l3, l4, n0, n1, takeRows, AO.isArr] <;> simpa [hB, b0] using q
    · have q := hQ (p + 5) (by omega) (by omega) ⟨K, B, 0, [], selT [⟨#[105, 112]⟩, ⟨#[118, 111, 108]⟩, ⟨#[118, 111, 108, 50]⟩] (pickV bs (p + 2) 3), ⟨#[99]⟩ ++ dec (pickV bs (p + 3) 4).toNat, pickV bs (p + 4) 60⟩ (by simp)
      simp only [rdBox, Parcel.c] at q
      by_cases b0 : pickV bs (p + 1) 10 = 0 <;> simp [c271, rdBox, a1, a2, a4, b1, c1, c2, c4, d1, t1, t3, e1, hK, k1, b0, l1, l2, l3, l4, n0, takeRows, AO.isArr] <;> simpa [hB, b0] using q

theorem law269 (bs : List Int) (hl : bs.length ≤ 1000000000) (h : ∀ b ∈ bs, 0 ≤ b ∧ b ≤ 255) : ∃ (m : Mate) (q : Parcel), F 269 [.sl .imm 1 (bs.map rowB)] [] = some (.tup [.agg (m.c .own), .agg (q.c .own)], []) ∧ Drawn m ∧ q.wants.length ≤ 10 := by
  have hb := Code.take h
  have w0 := law91 bs hl
  generalize bs.take 2000 = cs at hb w0
  obtain ⟨_, c1, x1, p1, rfl, c2, c3, m, rfl, hm⟩ := law116d cs 0 hb (by omega) (by omega)
  obtain ⟨_, d1, x2, p2, rfl, d2, d3, q, rfl, hq⟩ := law271 cs p1 m hb (by omega) (by omega) hm
  simp only [rdBox, Mate.c, Parcel.c] at d1 c1
  refine ⟨m, q, F_run fn269 rfl ?_, hm, hq⟩
  simp [c269, w0, c1, d1, AO.isArr]
end Go.Proofs.YtpiljklnekefoaaGreatDoor

namespace Go.Proofs.YtpiljklnekefoaaGreatDoor
open Go
set_option linter.unusedSimpArgs false

theorem valid_name {m : Mate} (h : mateValid m = false) (rate : Int) : mateTick m rate = (.zero, []) := by simp [mateTick, h]

theorem tick_small {m : Mate} {rate : Int} (h : Drawn m) : (mateTick m rate).1.small ∧ (mateTick m rate).2.length ≤ 1000 ∧ ∀ p ∈ (mateTick m rate).2, p.small := by
  have zero_small : Mate.zero.small := ⟨by simp [Mate.zero], by simp [Mate.zero], by simp [Mate.zero], by simp [Mate.zero]⟩
  cases q : mateValid m
  · rw [valid_name q]
    exact ⟨zero_small, by simp, fun p hp => by simp at hp⟩
  have hv := validIs q
  have key : ∀ x : Mate, Fit x 20 → (mAsks x).small ∧ (tickOut x).length ≤ 1000 ∧ ∀ p ∈ tickOut x, p.small := by
    intro x hx
    obtain ⟨h1, h2, h3⟩ := asksGo_len x x.runs (x.asks, [])
    have r := hx.runs
    have a := hx.asks
    have g := hx.gives
    have s := hx.small (by omega)
    simp only [List.length_nil] at h1 h2
    refine ⟨⟨s.wants, s.runs, by show (asksOf x).1.length ≤ _; unfold asksOf; omega, s.gives⟩, ?_, fun p hp => ?_⟩
    · simp only [tickOut, List.length_append, List.length_map, List.length_singleton]
      unfold asksOf
      omega
    · simp only [tickOut, List.mem_append, List.mem_singleton, List.mem_map] at hp
      rcases hp with (hp | ⟨b, _, rfl⟩) | rfl
      · exact ⟨by rw [h3 (fun p hp => by simp at hp) p hp]; simp⟩
      · exact ⟨by simp [backP]⟩
      · exact ⟨by simp [hereP]⟩
  have ft : Fit (tickOn m rate) 0 := ⟨hv.wants, by simpa [tickOn] using hv.runs, wd_asc hv.runsAsc, h.nasks, by have := h.ngives; simpa [tickOn] using this⟩
  unfold mateTick
  rw [if_pos q]
  split
  case isFalse => exact ⟨h.small, by simp, fun p hp => by simp at hp⟩
  split
  · have hf : (mateFall m true) = { Mate.zero with name := m.name, clock := m.clock, runs := m.runs.filterMap (fallRun true) } := if_pos q
    rw [hf]
    have := List.length_filterMap_le (fallRun true) m.runs
    have := h.small.runs
    exact ⟨⟨by simp [Mate.zero], by simp only; omega, by simp [Mate.zero], by simp [Mate.zero]⟩, by simp, fun p hp => by simp at hp⟩
  split
  case isFalse => exact ⟨ft.small (by omega), by simp, fun p hp => by simp at hp⟩
  unfold tickRuns
  split
  · exact key _ (mLives_fit ft)
  · exact key _ ⟨ft.wants, ft.runs, ft.asc, ft.asks, by have := ft.gives; omega⟩

theorem take_small {m : Mate} {p : Parcel} (h : m.small) (hp : p.wants.length ≤ 10) : (mateTake m p).small := by
  have zero_small : Mate.zero.small := ⟨by simp [Mate.zero], by simp [Mate.zero], by simp [Mate.zero], by simp [Mate.zero]⟩
  unfold mateTake
  split
  case isFalse => exact zero_small
  split
  case isFalse => exact h
  unfold takeKind
  split
  · unfold takeTold
    split
    · exact ⟨by simp only; omega, h.runs, h.asks, h.gives⟩
    · exact h
  split
  · unfold takeGiven
    split
    · split
      · exact ⟨h.wants, by simpa using h.runs, h.asks, h.gives⟩
      · exact h
    · exact h
  split
  · unfold takeBack'
    split
    · split
      · exact ⟨h.wants, h.runs, h.asks, Nat.le_trans (List.length_filter_le _ _) h.gives⟩
      · exact h
    · exact h
  · exact h
end Go.Proofs.YtpiljklnekefoaaGreatDoor

namespace Go.Proofs.YtpiljklnekefoaaGreatDoor
open Go
set_option linter.unusedSimpArgs false
set_option maxRecDepth 100000

def headWParcel (m m' : Md) (xs : List Parcel) (i : Nat) : St := hd [(0, .sl .bor 7 (xs.map (Parcel.c m))), (1, .sl .bor 7 (xs.map (Parcel.c m'))), (5, .int .i64 i)] [] 0

theorem law75 (m m' : Md) (xs : List Parcel) (hl : xs.length ≤ 1048576) (he : ∀ p ∈ xs, p.small) : F 75 [.sl .bor 7 (xs.map (Parcel.c m)), .sl .bor 7 (xs.map (Parcel.c m'))] [] = some (.bool true, []) := by
  refine F_run fn75 rfl ?_
  simp [c75]
  refine (loop_list xs (fun i (_ : Unit) => headWParcel m m' xs i) (fun _ _ => True) (fun _ _ _ => (.bool true, [])) (fun acc Y _ => ?_) (fun i a r acc Y ha hi hr _ hY => ?_) () ?_ trivial ?_).trans rfl
  · simp [headWParcel, c75b0]
  · have hw : IntKind.i64.wrap ((i : Int) + 1) = (i : Int) + 1 := i64w (by omega) (by omega)
    obtain ⟨_, hg⟩ := List.getElem?_eq_some_iff.1 ha
    have w143 := law143 a (he a (List.mem_of_getElem? ha))
    simp only [Parcel.c] at w143
    simp [headWParcel, c75b0, hi, hg, w143]
    refine hY () _ trivial ?_
    simp [headWParcel, hw]
  · simp [headWParcel]
  · unfold big; omega
end Go.Proofs.YtpiljklnekefoaaGreatDoor

namespace Go.Proofs.YtpiljklnekefoaaGreatDoor
open Go
set_option linter.unusedSimpArgs false
set_option maxRecDepth 100000

def kn206b : CCode := (.region [
      ⟨some 174, .load (.tmp 7) 1 false .plain, none⟩,
      ⟨some 175, .faddr (.tmp 2) 6, none⟩,
      ⟨none, .store (.tmp 175) (.tmp 174) 1, none⟩] [2, 4, 6])
def fin206 : CCode := (.seq (.region [
    ⟨some 328, .mov (.tmp 6), none⟩,
    ⟨some 329, .faddr (.tmp 2) 0, none⟩,
    ⟨some 330, .load (.tmp 329) 1 false .plain, none⟩,
    ⟨some 331, .faddr (.tmp 2) 4, none⟩,
    ⟨some 332, .load (.tmp 331) 1 false .plain, none⟩,
    ⟨some 333, .build [.int .i64 0, .str ⟨#[]⟩, .int .i64 0, .sl .own 7 [], .str ⟨#[]⟩, .str ⟨#[]⟩, .int .i64 0] [(0, 1, .const (.int .i64 6)), (1, 1, .tmp 330), (2, 1, .tmp 332)], none⟩,
    ⟨some 334, .bslice 7 [.int .i64 0, .str ⟨#[]⟩, .int .i64 0, .sl .own 7 [], .str ⟨#[]⟩, .str ⟨#[]⟩, .int .i64 0] 1 [(0, .tmp 333)], none⟩,
    ⟨some 335, .append 7 96 false (.tmp 328) (.tmp 334), none⟩,
    ⟨some 6, .mov (.tmp 335), none⟩] [2, 4, 6])
  (.seq (.region [
    ⟨some 336, .load (.tmp 2) 9 true .plain, none⟩,
    ⟨some 337, .mov (.tmp 6), none⟩,
    ⟨none, .store (.tmp 4) (.tmp 336) 9, none⟩,
    ⟨some 5, .mov (.tmp 337), none⟩] [4, 5])
  .ret))
def tb206 : CCode := .seq (.seq (.region [
    ⟨some 308, .faddr (.tmp 2) 8, none⟩,
    ⟨some 309, .load (.tmp 308) 1 false .plain, none⟩,
    ⟨some 310, .len false (.tmp 309), none⟩,
    ⟨some 311, .mov (.const (.int .i64 0)), none⟩] [2, 4, 6, 309, 310, 311])
  (.block 9
    (.loop [2, 4, 6, 309, 310, 311] c206b4))) fin206
def ta206 : CCode := .seq (.seq (.region [
    ⟨some 176, .faddr (.tmp 2) 6, none⟩,
    ⟨some 177, .load (.tmp 176) 1 false .plain, none⟩,
    ⟨some 178, .len false (.tmp 177), none⟩,
    ⟨some 179, .mov (.const (.int .i64 0)), none⟩] [2, 4, 6, 177, 178, 179])
  (.block 6
    (.loop [2, 4, 6, 177, 178, 179] c206b3))) tb206
def kn206 : CCode := (.seq (.seq (.region [
      ⟨some 132, .faddr (.tmp 2) 5, none⟩,
      ⟨some 133, .load (.tmp 132) 1 false .plain, none⟩,
      ⟨some 134, .len false (.tmp 133), none⟩,
      ⟨some 135, .mov (.const (.int .i64 0)), none⟩] [2, 4, 6, 7, 133, 134, 135])
    (.block 2
      (.loop [2, 4, 6, 7, 133, 134, 135] c206b2)))
    (.region [
      ⟨some 174, .load (.tmp 7) 1 false .plain, none⟩,
      ⟨some 175, .faddr (.tmp 2) 6, none⟩,
      ⟨none, .store (.tmp 175) (.tmp 174) 1, none⟩] [2, 4, 6]))
theorem c206_cut : c206 = ⟨338, [.cell 4 9 true, .tmp 5],
  (.seq (.region [
    ⟨some 2, .box (.tmp 0), none⟩,
    ⟨some 4, .alloc [.str ⟨#[]⟩, .bool false, .int .i64 0, .bool false, .int .i64 0, .sl .own 7 [], .sl .own 11 [], .sl .own 4 [], .sl .own 4 []], none⟩,
    ⟨some 5, .mov (.const (.sl .own 7 [])), none⟩] [1, 2, 4])
  (.seq (.seq (.region [
    ⟨some 29, .load (.tmp 2) 9 true .plain, none⟩,
    ⟨some 30, .call 28 [false] [.tmp 29], none⟩,
    ⟨some 31, .un .not (.tmp 30), none⟩] [1, 2, 4, 31])
  (.cond (.tmp 31)
    (.seq (.region [
      ⟨some 32, .build [.str ⟨#[]⟩, .bool false, .int .i64 0, .bool false, .int .i64 0, .sl .own 7 [], .sl .own 11 [], .sl .own 4 [], .sl .own 4 []] [], none⟩,
      ⟨none, .store (.tmp 4) (.tmp 32) 9, none⟩,
      ⟨some 5, .mov (.const (.sl .own 7 [])), none⟩] [4, 5])
    .ret)
    .skip))
  (.seq (.region [
    ⟨some 33, .load (.tmp 2) 9 true .plain, none⟩,
    ⟨some 34, .call 117 [false] [.tmp 33], none⟩,
    ⟨none, .store (.tmp 2) (.tmp 34) 9, none⟩] [1, 2, 4])
  (.seq (.seq (.region [
    ⟨some 35, .mov (.tmp 1), none⟩,
    ⟨some 36, .bin .lss (.tmp 35) (.const (.int .i64 1)), none⟩,
    ⟨some 37, .mov (.tmp 36), none⟩,
    ⟨some 38, .mov (.tmp 1), some (37, false)⟩,
    ⟨some 39, .bin .gtr (.tmp 38) (.const (.int .i64 4)), some (37, false)⟩,
    ⟨some 40, .pick (.tmp 37) (.const (.bool true)) (.tmp 39), none⟩] [1, 2, 4, 40])
  (.cond (.tmp 40)
    (.seq (.region [
      ⟨some 41, .load (.tmp 2) 9 true .plain, none⟩,
      ⟨none, .store (.tmp 4) (.tmp 41) 9, none⟩,
      ⟨some 5, .mov (.const (.sl .own 7 [])), none⟩] [4, 5])
    .ret)
    .skip))
  (.seq (.seq (.region [
    ⟨some 42, .faddr (.tmp 2) 2, none⟩,
    ⟨some 43, .load (.tmp 42) 1 false .plain, none⟩,
    ⟨some 44, .mov (.tmp 1), none⟩,
    ⟨some 45, .bin .add (.tmp 43) (.tmp 44), none⟩,
    ⟨some 46, .bin .gtr (.tmp 45) (.const (.int .i64 1000000)), none⟩] [1, 2, 4, 46])
  (.cond (.tmp 46)
    (.seq (.region [
      ⟨some 47, .load (.tmp 2) 9 true .plain, none⟩,
      ⟨some 48, .call 36 [false, false] [.tmp 47, .const (.bool true)], none⟩,
      ⟨none, .store (.tmp 2) (.tmp 48) 9, none⟩] [2, 4])
    (.seq (.region [
      ⟨some 49, .faddr (.tmp 2) 2, none⟩,
      ⟨none, .store (.tmp 49) (.const (.int .i64 1000000)) 1, none⟩] [2, 4])
    (.seq (.region [
      ⟨some 50, .load (.tmp 2) 9 true .plain, none⟩,
      ⟨none, .store (.tmp 4) (.tmp 50) 9, none⟩,
      ⟨some 5, .mov (.const (.sl .own 7 [])), none⟩] [4, 5])
    .ret)))
    .skip))
  (.seq (.region [
    ⟨some 51, .faddr (.tmp 2) 2, none⟩,
    ⟨some 52, .load (.tmp 51) 1 false .plain, none⟩,
    ⟨some 53, .mov (.tmp 1), none⟩,
    ⟨some 54, .bin .add (.tmp 52) (.tmp 53), none⟩,
    ⟨some 55, .faddr (.tmp 2) 2, none⟩,
    ⟨none, .store (.tmp 55) (.tmp 54) 1, none⟩] [2, 4])
  (.seq (.region [
    ⟨some 56, .faddr (.tmp 2) 6, none⟩,
    ⟨some 57, .load (.tmp 56) 1 false .plain, none⟩,
    ⟨some 58, .faddr (.tmp 2) 2, none⟩,
    ⟨some 59, .load (.tmp 58) 1 false .plain, none⟩,
    ⟨some 60, .call 18 [false, false] [.tmp 57, .tmp 59], none⟩,
    ⟨some 61, .faddr (.tmp 2) 6, none⟩,
    ⟨none, .store (.tmp 61) (.tmp 60) 1, none⟩] [2, 4])
  (.seq (.seq (.region [
    ⟨some 62, .faddr (.tmp 2) 1, none⟩,
    ⟨some 63, .load (.tmp 62) 1 false .plain, none⟩,
    ⟨some 64, .un .not (.tmp 63), none⟩] [2, 4, 64])
  (.cond (.tmp 64)
    (.seq (.region [
      ⟨some 65, .load (.tmp 2) 9 true .plain, none⟩,
      ⟨none, .store (.tmp 4) (.tmp 65) 9, none⟩,
      ⟨some 5, .mov (.const (.sl .own 7 [])), none⟩] [4, 5])
    .ret)
    .skip))
  (.seq (.region [
    ⟨some 6, .mov (.const (.sl .own 7 [])), none⟩] [2, 4, 6])
  (.seq (.seq (.region [
    ⟨some 66, .faddr (.tmp 2) 3, none⟩,
    ⟨some 67, .load (.tmp 66) 1 false .plain, none⟩] [2, 4, 6, 67])
  (.cond (.tmp 67)
    (.seq (.region [
      ⟨some 7, .alloc [.sl .own 11 []], none⟩] [2, 4, 6, 7])
    (.seq (.seq (.region [
      ⟨some 68, .faddr (.tmp 2) 6, none⟩,
      ⟨some 69, .load (.tmp 68) 1 false .plain, none⟩,
      ⟨some 70, .len false (.tmp 69), none⟩,
      ⟨some 71, .mov (.const (.int .i64 0)), none⟩] [2, 4, 6, 7, 69, 70, 71])
    (.block 0
      (.loop [2, 4, 6, 7, 69, 70, 71] c206b0)))
    (.seq (.seq (.region [
      ⟨some 132, .faddr (.tmp 2) 5, none⟩,
      ⟨some 133, .load (.tmp 132) 1 false .plain, none⟩,
      ⟨some 134, .len false (.tmp 133), none⟩,
      ⟨some 135, .mov (.const (.int .i64 0)), none⟩] [2, 4, 6, 7, 133, 134, 135])
    (.block 2
      (.loop [2, 4, 6, 7, 133, 134, 135] c206b2)))
    (.region [
      ⟨some 174, .load (.tmp 7) 1 false .plain, none⟩,
      ⟨some 175, .faddr (.tmp 2) 6, none⟩,
      ⟨none, .store (.tmp 175) (.tmp 174) 1, none⟩] [2, 4, 6]))))
    .skip)) ta206))))))))))⟩ := rfl

def oN (o : Bool) : Nat := if o then 1 else 0
def outV (o : Bool) : AV := if o then .ref 2 else .sl .own 7 []
def outH (o : Bool) (out : List Parcel) : List AO := if o then [.arr 7 (out.map (Parcel.c .own))] else []
def runV (n : Nat) (f : Bool) : AV := if f then .ref n else .sl .own 11 []
def runH (f : Bool) (rs : List Run) : List AO := if f then [.arr 11 (rs.map Run.c)] else []

def head206d (m : Mate) (f o : Bool) (out : List Parcel) (i : Nat) : St :=
  hd [(2, .ptr 0 0 0), (4, .ptr 1 0 0), (6, outV o), (309, .ref (2 + oN o)), (310, .int .i64 m.gives.length), (311, .int .i64 i)]
    ([.box [.str m.name, .bool m.up, .int .i64 m.clock, .bool m.known, .int .i64 m.seen, .ref (3 + oN o), runV (4 + oN o) f, .ref (4 + oN o + oN f), .ref (2 + oN o)], .box zeroM] ++ (outH o out ++ ([.arr 4 (m.gives.map Ask.c), .arr 7 (m.wants.map Want.c)] ++ (runH f m.runs ++ [.arr 4 (m.asks.map Ask.c)])))) 0

def resT (m : Mate) (out : List Parcel) : AV × List (Option AO) := (.tup [.agg (m.c .own), .sl .own 7 (out.map (Parcel.c .own))], [])

theorem end206 (m : Mate) (f : Bool) (hf : f = false → m.runs = []) (o : Bool) (out : List Parcel) (ho : o = false → out = []) (hol : out.length ≤ 1000) (hg : m.gives.length ≤ 1000) (s : St) (hs : s.norm [2, 4, 6, 309, 310, 311] = head206d m f o out 0) :
    fin [.cell 4 9 true, .tmp 5] 0 (X F [.code (.loop [2, 4, 6, 309, 310, 311] c206b4), .blk 9, .code fin206] (.normal, s)) = some (resT m (out ++ m.gives.map (backP m.name) ++ [hereP m])) := by
  obtain ⟨R, hR⟩ : ∃ R, R = resT m (out ++ m.gives.map (backP m.name) ++ [hereP m]) := ⟨_, rfl⟩
  rw [← hR]
  refine (loop_list m.gives (fun i (z : Bool × List Parcel) => head206d m f z.1 z.2 i) (fun i z => z.2 = out ++ (m.gives.take i).map (backP m.name) ∧ (z.1 = false → z.2 = [])) (fun _ _ _ => _) (fun z Y hz => ?_) (fun i a r z Y ha hi hr hz hY => ?_) (o, out) hs ⟨by simp, ho⟩ ?_).trans rfl
  · obtain ⟨o, acc⟩ := z
    obtain ⟨hacc, ho⟩ := hz
    simp only at hacc ho ⊢
    rw [List.take_length] at hacc
    rw [← hacc] at hR
    have hal : acc.length ≤ 2000 := by rw [hacc]; simp; omega
    have c1 : (acc.length + 1) * 96 ≤ 140737488355328 := by omega
    have c2 : acc.length + 1 ≤ 140737488355328 := by omega
    cases o
    · have e := ho rfl
      subst e
      cases f
      · have e2 := hf rfl
        simp [head206d, outV, outH, runV, runH, oN, c206b4, fin206, zeroM, takeRows, hR, resT, hereP, e2]
      · simp [head206d, outV, outH, runV, runH, oN, c206b4, fin206, zeroM, takeRows, hR, resT, hereP]
    · cases f
      · have e2 := hf rfl
        simp [head206d, outV, outH, runV, runH, oN, c206b4, fin206, zeroM, takeRows, hR, resT, hereP, c1, c2, e2]
      · simp [head206d, outV, outH, runV, runH, oN, c206b4, fin206, zeroM, takeRows, hR, resT, hereP, c1, c2]
  · obtain ⟨o, acc⟩ := z
    obtain ⟨hacc, ho⟩ := hz
    simp only at hacc ho ⊢
    have hw : IntKind.i64.wrap ((i : Int) + 1) = (i : Int) + 1 := i64w (by omega) (by omega)
    obtain ⟨_, hga⟩ := List.getElem?_eq_some_iff.1 ha
    have hiI : (i : Int) < m.gives.length := by omega
    have hal : acc.length ≤ 2000 := by rw [hacc]; simp; omega
    have c1 : (acc.length + 1) * 96 ≤ 140737488355328 := by omega
    have c2 : acc.length + 1 ≤ 140737488355328 := by omega
    have hnx : acc ++ [backP m.name a] = out ++ (m.gives.take (i + 1)).map (backP m.name) := by
      rw [hacc, List.take_add_one, ha]
      simp
    cases o
    · have e := ho rfl
      cases f <;> simp [head206d, outV, outH, runV, runH, oN, c206b4, hi, hiI, hga, takeRows] <;> refine hY (true, acc ++ [backP m.name a]) _ ⟨hnx, fun h => nomatch h⟩ ?_ <;> simp [head206d, outV, outH, runV, runH, oN, zeroM, hw, backP, e]
    · cases f <;> simp [head206d, outV, outH, runV, runH, oN, c206b4, hi, hiI, hga, takeRows, c1, c2] <;> refine hY (true, acc ++ [backP m.name a]) _ ⟨hnx, fun h => nomatch h⟩ ?_ <;> simp [head206d, outV, outH, runV, runH, oN, zeroM, hw, backP]
  · unfold big; omega

def head206c (m : Mate) (f o : Bool) (out : List Parcel) (i : Nat) : St :=
  hd [(2, .ptr 0 0 0), (4, .ptr 1 0 0), (6, outV o), (177, runV (2 + oN o) f), (178, .int .i64 m.runs.length), (179, .int .i64 i)]
    ([.box [.str m.name, .bool m.up, .int .i64 m.clock, .bool m.known, .int .i64 m.seen, .ref (2 + oN o + oN f), runV (2 + oN o) f, .ref (3 + oN o + oN f), .ref (4 + oN o + oN f)], .box zeroM] ++ (outH o out ++ (runH f m.runs ++ [.arr 7 (m.wants.map Want.c), .arr 4 (m.asks.map Ask.c), .arr 4 (m.gives.map Ask.c)]))) 0

theorem dropAt_same {l : List Ask} (h : Asc Ask.k l) {k : Nat} (hk : k < l.length) : dropHold l l[k].hold = dropAt l k := by
  have e : l = l.take k ++ l[k] :: l.drop (k + 1) := by rw [← List.drop_eq_getElem_cons hk, List.take_append_drop]
  generalize hx : l[k] = x at e
  rw [e] at h
  obtain ⟨_, h2, h3⟩ := List.pairwise_append.1 h
  rw [List.pairwise_cons] at h2
  unfold dropHold dropAt
  have f1 : (l.take k).filter (fun a => !sEq a.hold x.hold) = l.take k := by
    rw [List.filter_eq_self]
    intro a ha
    rw [sEq_ne (show a.hold ≠ x.hold from sLt_ne (h3 a ha x List.mem_cons_self))]; rfl
  have f2 : (l.drop (k + 1)).filter (fun a => !sEq a.hold x.hold) = l.drop (k + 1) := by
    rw [List.filter_eq_self]
    intro a ha
    rw [sEq_ne (show a.hold ≠ x.hold from Ne.symm (sLt_ne (h2.1 a ha)))]; rfl
  calc l.filter (fun a => !sEq a.hold x.hold) = (l.take k ++ x :: l.drop (k + 1)).filter (fun a => !sEq a.hold x.hold) := by rw [← e]
    _ = _ := by rw [List.filter_append, List.filter_cons, f1, f2]; simp

theorem askOf_lacks {h : T} {l : List Ask} (e : askOf h l = none) : Lacks Ask.k h l := fun y hy k => by
  unfold askOf at e
  exact List.find?_eq_none.1 e y hy ((sEq_iff _ _).2 k)

set_option maxHeartbeats 0 in
theorem asks206 (m : Mate) (f : Bool) (hf : f = false → m.runs = []) (hwl : m.wants.length ≤ 1000) (hr : m.runs.length ≤ 20) (hal : m.asks.length ≤ 20) (hasc : Asc Ask.k m.asks) (hgl : m.gives.length ≤ 100) (s : St) (hs : s.norm [2, 4, 6, 177, 178, 179] = head206c m f false [] 0) :
    fin [.cell 4 9 true, .tmp 5] 0 (X F [.code (.loop [2, 4, 6, 177, 178, 179] c206b3), .blk 6, .code tb206] (.normal, s)) = some (resT (mAsks m) (tickOut m)) := by
  obtain ⟨R, hR⟩ : ∃ R, R = resT (mAsks m) (tickOut m) := ⟨_, rfl⟩
  rw [← hR]
  refine (loop_by (σ := Nat × Bool × List Ask × List Parcel) (fun z => head206c { m with asks := z.2.2.1 } f z.2.1 z.2.2.2 z.1) (fun z => z.1 ≤ m.runs.length ∧ z.2.2 = (m.runs.take z.1).foldl (askStep m) (m.asks, []) ∧ (z.2.1 = false → z.2.2.2 = []) ∧ z.2.2.1.length ≤ 20 + z.1 ∧ z.2.2.2.length ≤ z.1 ∧ Asc Ask.k z.2.2.1) (fun z => m.runs.length - z.1) (fun _ => _) (fun z Y hinv hY => ?_) (0, false, m.asks, []) hs ⟨by omega, rfl, fun _ => rfl, by simp only; omega, by simp, hasc⟩ (by unfold big; simp only; omega)).trans rfl
  obtain ⟨i, o, as', out⟩ := z
  obtain ⟨g1, g2, g3, g4, g5, g6⟩ := hinv
  simp only at g1 g2 g3 g4 g5 g6 hY ⊢
  by_cases hi : i < m.runs.length
  · cases f
    · rw [hf rfl] at hi; simp at hi
    have hiI : (i : Int) < m.runs.length := by omega
    have hw : IntKind.i64.wrap ((i : Int) + 1) = (i : Int) + 1 := i64w (by omega) (by omega)
    obtain ⟨r, hgr⟩ : ∃ r, m.runs[i] = r := ⟨_, rfl⟩
    have hri : m.runs[i]? = some r := by rw [← hgr]; exact List.getElem?_eq_getElem hi
    have htk : m.runs.take (i + 1) = m.runs.take i ++ [r] := by rw [List.take_add_one, hri]; rfl
    have hnx : (m.runs.take (i + 1)).foldl (askStep m) (m.asks, []) = askStep m (as', out) r := by rw [htk, List.foldl_append, ← g2]; rfl
    have w182 := law182 m.wants r.want.copy (by unfold big; omega)
    have hc1 : (out.length + 1) * 96 ≤ 140737488355328 := by omega
    have hc2 : out.length + 1 ≤ 140737488355328 := by omega
    have hah : asksHold m.wants m.gives r = ((match findW m.wants r.want.copy with
      | some w => eqWant w r.want
      | none => false) && (!sEq r.want.hold ⟨#[]⟩ && (askOf r.want.hold m.gives).isNone)) := rfl
    have hno : asksHold m.wants m.gives r = false → askStep m (as', out) r = (as', out) := fun h => by unfold askStep; rw [h]; rfl
    cases q : sEq r.want.hold ⟨#[]⟩
    · cases hfw : findW m.wants r.want.copy with
      | none =>
        rw [hfw] at w182 hah
        have hst := hno (by rw [hah]; rfl)
        simp [Want.zero] at w182
        cases o
        · obtain rfl := g3 rfl
          simp [head206c, outV, outH, runV, runH, oN, c206b3, hi, hiI, hgr, w182, q]
          refine hY (i + 1, _, _, _) _ ⟨by simp only; omega, by rw [hnx, hst], g3, Nat.le_succ_of_le g4, Nat.le_succ_of_le g5, g6⟩ (by simp only; omega) ?_
          simp [head206c, outV, outH, runV, runH, oN, zeroM, hw]
        · skip
          simp [head206c, outV, outH, runV, runH, oN, c206b3, hi, hiI, hgr, w182, q]
          refine hY (i + 1, _, _, _) _ ⟨by simp only; omega, by rw [hnx, hst], g3, Nat.le_succ_of_le g4, Nat.le_succ_of_le g5, g6⟩ (by simp only; omega) ?_
          simp [head206c, outV, outH, runV, runH, oN, zeroM, hw]
      | some w =>
        rw [hfw] at w182 hah
        simp at w182
        simp only at hah
        cases heq : eqWant w r.want
        · rw [heq] at hah
          have hst := hno (by rw [hah]; rfl)
          cases o
          · obtain rfl := g3 rfl
            simp [head206c, outV, outH, runV, runH, oN, c206b3, hi, hiI, hgr, w182, q, heq]
            refine hY (i + 1, _, _, _) _ ⟨by simp only; omega, by rw [hnx, hst], g3, Nat.le_succ_of_le g4, Nat.le_succ_of_le g5, g6⟩ (by simp only; omega) ?_
            simp [head206c, outV, outH, runV, runH, oN, zeroM, hw]
          · skip
            simp [head206c, outV, outH, runV, runH, oN, c206b3, hi, hiI, hgr, w182, q, heq]
            refine hY (i + 1, _, _, _) _ ⟨by simp only; omega, by rw [hnx, hst], g3, Nat.le_succ_of_le g4, Nat.le_succ_of_le g5, g6⟩ (by simp only; omega) ?_
            simp [head206c, outV, outH, runV, runH, oN, zeroM, hw]
        · rw [heq] at hah
          obtain rfl := (eqWant_iff _ _).1 heq
          have heqc : eqWant r.want r.want = true := heq
          have w113g := law113 m.gives r.want.hold (by omega)
          rcases askOf_at m.gives r.want.hold with ⟨e, hgo⟩ | ⟨k, hkl, e, hgo, _⟩
          · rw [e] at w113g
            have hyes : asksHold m.wants m.gives r = true := by rw [hah, q, hgo]; rfl
            have hyst : askStep m (as', out) r = match freshAsk m.clock r as' with
              | some a => (putBy Ask.k a as', out ++ [asked m.name m.clock r])
              | none => (as', out) := by unfold askStep; rw [hyes]; rfl
            have w113a := law113 as' r.want.hold (by omega)
            rcases askOf_at as' r.want.hold with ⟨e2, hao⟩ | ⟨k, hkl, e2, hao, hkh⟩
            · rw [e2] at w113a
              have hfr : freshAsk m.clock r as' = some ⟨r.want.hold, r.want.copy, m.clock, m.clock⟩ := by unfold freshAsk; rw [hao]
              have hst := hyst
              rw [hfr] at hst
              simp only at hst
              have w219 := law219 as' ⟨r.want.hold, r.want.copy, m.clock, m.clock⟩ (by omega) g6 (askOf_lacks hao)
              have hpl := putBy_len Ask.k ⟨r.want.hold, r.want.copy, m.clock, m.clock⟩ as'
              have hlt : ¬ (40 : Int) ≤ as'.length := by omega
              have hput : True := trivial
              simp only [Ask.c] at w219
              cases o
              · obtain rfl := g3 rfl
                simp [head206c, outV, outH, runV, runH, oN, c206b3, hi, hiI, hgr, w182, heqc, q, w113g, w113a, hlt, w219, AO.isArr, takeRows, hc1, hc2]
                refine hY (i + 1, true, putBy Ask.k ⟨r.want.hold, r.want.copy, m.clock, m.clock⟩ as', _ ++ [asked m.name m.clock r]) _ ⟨by simp only; omega, by rw [hnx, hst], fun h => (nomatch h), Nat.le_trans hpl (Nat.succ_le_succ g4), by simp <;> omega, putBy_asc Ask.k g6⟩ (by simp only; omega) ?_
                simp [head206c, outV, outH, runV, runH, oN, zeroM, hw, asked, hput]
              · skip
                simp [head206c, outV, outH, runV, runH, oN, c206b3, hi, hiI, hgr, w182, heqc, q, w113g, w113a, hlt, w219, AO.isArr, takeRows, hc1, hc2]
                refine hY (i + 1, true, putBy Ask.k ⟨r.want.hold, r.want.copy, m.clock, m.clock⟩ as', _ ++ [asked m.name m.clock r]) _ ⟨by simp only; omega, by rw [hnx, hst], fun h => (nomatch h), Nat.le_trans hpl (Nat.succ_le_succ g4), by simp <;> omega, putBy_asc Ask.k g6⟩ (by simp only; omega) ?_
                simp [head206c, outV, outH, runV, runH, oN, zeroM, hw, asked, hput]
            · rw [e2] at w113a
              obtain ⟨a, hak⟩ : ∃ a, as'[k] = a := ⟨_, rfl⟩
              rw [hak] at hao hkh
              have h0k : ¬ (k : Int) < 0 := by omega
              have hki : as'[k]? = some a := by rw [← hak]; exact List.getElem?_eq_getElem hkl
              cases q2 : sEq a.copy r.want.copy
              · have hfr : freshAsk m.clock r as' = some ⟨r.want.hold, r.want.copy, m.clock, m.clock⟩ := by unfold freshAsk; rw [hao]; simp only [q2]; rfl
                have hst := hyst
                rw [hfr] at hst
                simp only at hst
                have hpl := putBy_len Ask.k ⟨r.want.hold, r.want.copy, m.clock, m.clock⟩ as'
                have hput : putBy Ask.k ⟨r.want.hold, r.want.copy, m.clock, m.clock⟩ as' = as'.set k ⟨r.want.hold, r.want.copy, m.clock, m.clock⟩ := putBy_set Ask.k g6 hki hkh
                cases o
                · obtain rfl := g3 rfl
                  simp [head206c, outV, outH, runV, runH, oN, c206b3, hi, hiI, hgr, w182, heqc, q, w113g, w113a, hkl, hak, q2, h0k, takeRows, hc1, hc2]
                  refine hY (i + 1, true, putBy Ask.k ⟨r.want.hold, r.want.copy, m.clock, m.clock⟩ as', _ ++ [asked m.name m.clock r]) _ ⟨by simp only; omega, by rw [hnx, hst], fun h => (nomatch h), Nat.le_trans hpl (Nat.succ_le_succ g4), by simp <;> omega, putBy_asc Ask.k g6⟩ (by simp only; omega) ?_
                  simp [head206c, outV, outH, runV, runH, oN, zeroM, hw, asked, hput, List.map_set]
                · skip
                  simp [head206c, outV, outH, runV, runH, oN, c206b3, hi, hiI, hgr, w182, heqc, q, w113g, w113a, hkl, hak, q2, h0k, takeRows, hc1, hc2]
                  refine hY (i + 1, true, putBy Ask.k ⟨r.want.hold, r.want.copy, m.clock, m.clock⟩ as', _ ++ [asked m.name m.clock r]) _ ⟨by simp only; omega, by rw [hnx, hst], fun h => (nomatch h), Nat.le_trans hpl (Nat.succ_le_succ g4), by simp <;> omega, putBy_asc Ask.k g6⟩ (by simp only; omega) ?_
                  simp [head206c, outV, outH, runV, runH, oN, zeroM, hw, asked, hput, List.map_set]
              · by_cases q3 : m.clock < IntKind.i64.wrap (a.at_ + 6)
                · have hfr : freshAsk m.clock r as' = none := by unfold freshAsk; rw [hao]; simp only [q2, q3, if_true]
                  have hst := hyst
                  rw [hfr] at hst
                  simp only at hst
                  cases o
                  · obtain rfl := g3 rfl
                    simp [head206c, outV, outH, runV, runH, oN, c206b3, hi, hiI, hgr, w182, heqc, q, w113g, w113a, hkl, hak, q2, q3, h0k]
                    refine hY (i + 1, _, _, _) _ ⟨by simp only; omega, by rw [hnx, hst], g3, Nat.le_succ_of_le g4, Nat.le_succ_of_le g5, g6⟩ (by simp only; omega) ?_
                    simp [head206c, outV, outH, runV, runH, oN, zeroM, hw]
                  · skip
                    simp [head206c, outV, outH, runV, runH, oN, c206b3, hi, hiI, hgr, w182, heqc, q, w113g, w113a, hkl, hak, q2, q3, h0k]
                    refine hY (i + 1, _, _, _) _ ⟨by simp only; omega, by rw [hnx, hst], g3, Nat.le_succ_of_le g4, Nat.le_succ_of_le g5, g6⟩ (by simp only; omega) ?_
                    simp [head206c, outV, outH, runV, runH, oN, zeroM, hw]
                · have hfr : freshAsk m.clock r as' = some ⟨r.want.hold, r.want.copy, a.first, m.clock⟩ := by unfold freshAsk; rw [hao]; simp only [q2, q3, if_true, if_false]
                  have hst := hyst
                  rw [hfr] at hst
                  simp only at hst
                  have hpl := putBy_len Ask.k ⟨r.want.hold, r.want.copy, a.first, m.clock⟩ as'
                  have hput : putBy Ask.k ⟨r.want.hold, r.want.copy, a.first, m.clock⟩ as' = as'.set k ⟨a.hold, a.copy, a.first, m.clock⟩ := by
                    rw [putBy_set (x := ⟨r.want.hold, r.want.copy, a.first, m.clock⟩) Ask.k g6 hki (show Ask.k a = r.want.hold from hkh), hkh, (sEq_iff _ _).1 q2]
                  cases o
                  · obtain rfl := g3 rfl
                    simp [head206c, outV, outH, runV, runH, oN, c206b3, hi, hiI, hgr, w182, heqc, q, w113g, w113a, hkl, hak, q2, q3, h0k, takeRows, hc1, hc2]
                    refine hY (i + 1, true, putBy Ask.k ⟨r.want.hold, r.want.copy, a.first, m.clock⟩ as', _ ++ [asked m.name m.clock r]) _ ⟨by simp only; omega, by rw [hnx, hst], fun h => (nomatch h), Nat.le_trans hpl (Nat.succ_le_succ g4), by simp <;> omega, putBy_asc Ask.k g6⟩ (by simp only; omega) ?_
                    simp [head206c, outV, outH, runV, runH, oN, zeroM, hw, asked, hput, List.map_set]
                  · skip
                    simp [head206c, outV, outH, runV, runH, oN, c206b3, hi, hiI, hgr, w182, heqc, q, w113g, w113a, hkl, hak, q2, q3, h0k, takeRows, hc1, hc2]
                    refine hY (i + 1, true, putBy Ask.k ⟨r.want.hold, r.want.copy, a.first, m.clock⟩ as', _ ++ [asked m.name m.clock r]) _ ⟨by simp only; omega, by rw [hnx, hst], fun h => (nomatch h), Nat.le_trans hpl (Nat.succ_le_succ g4), by simp <;> omega, putBy_asc Ask.k g6⟩ (by simp only; omega) ?_
                    simp [head206c, outV, outH, runV, runH, oN, zeroM, hw, asked, hput, List.map_set]
          · rw [e] at w113g
            have hst := hno (by rw [hah, hgo]; simp)
            cases o
            · obtain rfl := g3 rfl
              simp [head206c, outV, outH, runV, runH, oN, c206b3, hi, hiI, hgr, w182, heqc, q, w113g]
              refine hY (i + 1, _, _, _) _ ⟨by simp only; omega, by rw [hnx, hst], g3, Nat.le_succ_of_le g4, Nat.le_succ_of_le g5, g6⟩ (by simp only; omega) ?_
              simp [head206c, outV, outH, runV, runH, oN, zeroM, hw]
            · skip
              simp [head206c, outV, outH, runV, runH, oN, c206b3, hi, hiI, hgr, w182, heqc, q, w113g]
              refine hY (i + 1, _, _, _) _ ⟨by simp only; omega, by rw [hnx, hst], g3, Nat.le_succ_of_le g4, Nat.le_succ_of_le g5, g6⟩ (by simp only; omega) ?_
              simp [head206c, outV, outH, runV, runH, oN, zeroM, hw]
    · have hst := hno (by rw [hah, q]; simp)
      cases o
      · obtain rfl := g3 rfl
        simp [head206c, outV, outH, runV, runH, oN, c206b3, hi, hiI, hgr, w182, q]
        refine hY (i + 1, _, _, _) _ ⟨by simp only; omega, by rw [hnx, hst], g3, Nat.le_succ_of_le g4, Nat.le_succ_of_le g5, g6⟩ (by simp only; omega) ?_
        simp [head206c, outV, outH, runV, runH, oN, zeroM, hw]
      · skip
        simp [head206c, outV, outH, runV, runH, oN, c206b3, hi, hiI, hgr, w182, q]
        refine hY (i + 1, _, _, _) _ ⟨by simp only; omega, by rw [hnx, hst], g3, Nat.le_succ_of_le g4, Nat.le_succ_of_le g5, g6⟩ (by simp only; omega) ?_
        simp [head206c, outV, outH, runV, runH, oN, zeroM, hw]
  · obtain rfl : i = m.runs.length := by omega
    rw [List.take_length] at g2
    have hlv : asksOf m = (as', out) := g2.symm
    have hma : mAsks m = { m with asks := as' } := by unfold mAsks; rw [hlv]
    have key := end206 { m with asks := as' } f hf o out g3 (by omega) (by simp only; omega)
    have hR2 : R = resT { m with asks := as' } (out ++ m.gives.map (backP m.name) ++ [hereP m]) := by rw [hR, hma]; unfold tickOut; rw [hlv]
    simp only at key
    rw [show hereP { m with asks := as' } = hereP m from rfl, ← hR2] at key
    cases o
    · obtain rfl := g3 rfl
      cases f
      · have e2 := hf rfl
        simp [head206c, outV, outH, runV, runH, oN, c206b3, tb206, e2]
        refine key _ ?_
        simp [head206d, outV, outH, runV, runH, oN, zeroM, e2]
      · simp [head206c, outV, outH, runV, runH, oN, c206b3, tb206]
        refine key _ ?_
        simp [head206d, outV, outH, runV, runH, oN, zeroM]
    · cases f
      · have e2 := hf rfl
        simp [head206c, outV, outH, runV, runH, oN, c206b3, tb206, e2]
        refine key _ ?_
        simp [head206d, outV, outH, runV, runH, oN, zeroM, e2]
      · simp [head206c, outV, outH, runV, runH, oN, c206b3, tb206]
        refine key _ ?_
        simp [head206d, outV, outH, runV, runH, oN, zeroM]
end Go.Proofs.YtpiljklnekefoaaGreatDoor

namespace Go.Proofs.YtpiljklnekefoaaGreatDoor
open Go
set_option linter.unusedSimpArgs false
set_option maxRecDepth 100000

def head206a (m : Mate) (s : LV) (i : Nat) : St :=
  hd [(2, .ptr 0 0 0), (4, .ptr 1 0 0), (6, .sl .own 7 []), (7, .ptr 2 0 0), (69, .ref 3), (70, .int .i64 m.runs.length), (71, .int .i64 i)]
    ([.box [.str m.name, .bool m.up, .int .i64 m.clock, .bool m.known, .int .i64 m.seen, .ref 4, .ref 3, .ref 5, .ref 6], .box zeroM, .box [ownVi 7 11 (s.runs.map Run.c)], .arr 11 (m.runs.map Run.c), .arr 7 (m.wants.map Want.c), .arr 4 (s.asks.map Ask.c), .arr 4 (s.gives.map Ask.c)] ++ ownH 11 (s.runs.map Run.c)) 0
def head206b (m : Mate) (as gv : List Ask) (rs : List Run) (i : Nat) : St :=
  hd [(2, .ptr 0 0 0), (4, .ptr 1 0 0), (6, .sl .own 7 []), (7, .ptr 2 0 0), (133, .ref 3), (134, .int .i64 m.wants.length), (135, .int .i64 i)]
    ([.box [.str m.name, .bool m.up, .int .i64 m.clock, .bool m.known, .int .i64 m.seen, .ref 3, .ref 4, .ref 5, .ref 6], .box zeroM, .box [ownVi 7 11 (rs.map Run.c)], .arr 7 (m.wants.map Want.c), .arr 11 (m.runs.map Run.c), .arr 4 (as.map Ask.c), .arr 4 (gv.map Ask.c)] ++ ownH 11 (rs.map Run.c)) 0
def head206e (m : Mate) (as gv : List Ask) (rs : List Run) (w : Want) (i : Nat) (b : Bool) (j : Nat) : St :=
  hd [(2, .ptr 0 0 0), (4, .ptr 1 0 0), (6, .sl .own 7 []), (7, .ptr 2 0 0), (17, .ptr 3 0 0), (18, .bool b), (133, .ref 4), (134, .int .i64 m.wants.length), (135, .int .i64 i), (139, .ref 5), (140, .int .i64 rs.length), (141, .int .i64 j)]
    [.box [.str m.name, .bool m.up, .int .i64 m.clock, .bool m.known, .int .i64 m.seen, .ref 4, .ref 6, .ref 7, .ref 8], .box zeroM, .box [.ref 5], .box w.c, .arr 7 (m.wants.map Want.c), .arr 11 (rs.map Run.c), .arr 11 (m.runs.map Run.c), .arr 4 (as.map Ask.c), .arr 4 (gv.map Ask.c)] 0
def head206f (m : Mate) (as gv : List Ask) (w : Want) (i : Nat) : St :=
  hd [(2, .ptr 0 0 0), (4, .ptr 1 0 0), (6, .sl .own 7 []), (7, .ptr 2 0 0), (17, .ptr 3 0 0), (18, .bool false), (133, .ref 4), (134, .int .i64 m.wants.length), (135, .int .i64 i), (139, .sl .own 11 []), (140, .int .i64 0), (141, .int .i64 0)]
    [.box [.str m.name, .bool m.up, .int .i64 m.clock, .bool m.known, .int .i64 m.seen, .ref 4, .ref 5, .ref 6, .ref 7], .box zeroM, .box [.sl .own 11 []], .box w.c, .arr 7 (m.wants.map Want.c), .arr 11 (m.runs.map Run.c), .arr 4 (as.map Ask.c), .arr 4 (gv.map Ask.c)] 0

structure AG (as gv : List Ask) : Prop where
  a : Asc Ask.k as
  g : Asc Ask.k gv
  apart : ∀ a ∈ as, ∀ b ∈ gv, a.hold ≠ b.hold

theorem AG.give {as gv : List Ask} (h : AG as gv) {ask : Ask} (ha : ask ∈ as) : AG (dropHold as ask.hold) (putBy Ask.k ask gv) := by
  refine ⟨h.a.sublist List.filter_sublist, putBy_asc Ask.k h.g, fun x hx y hy => ?_⟩
  obtain ⟨h1, h2⟩ := List.mem_filter.1 hx
  rcases mem_putBy Ask.k hy with rfl | hy
  · exact fun e => by rw [(sEq_iff _ _).2 e] at h2; cases h2
  · exact h.apart x h1 y hy

set_option maxHeartbeats 0 in
/-- What comes behind the first loop. -/
theorem wants206 (m : Mate) (hwl : m.wants.length ≤ 10) (as gv : List Ask) (rs : List Run) (hr : rs.length ≤ 20) (ha : Asc Run.k rs) (hal : as.length ≤ 20) (hgl : gv.length ≤ 40) (hag : AG as gv) (hs : livesOf m = ⟨rs, as, gv⟩) (st : St) (hst : st.norm [2, 4, 6, 7, 133, 134, 135] = head206b m as gv rs 0) :
    fin [.cell 4 9 true, .tmp 5] 0 (X F [.code (.loop [2, 4, 6, 7, 133, 134, 135] c206b2), .blk 2, .code kn206b, .code ta206] (.normal, st)) = some (resT (mAsks (mLives m)) (tickOut (mLives m))) := by
  have hml : ∀ xs, xs = m.wants.foldl addRun rs → mLives m = { m with runs := xs, asks := as, gives := gv } := fun xs h => by unfold mLives; rw [hs, h]
  refine (loop_by (σ := Nat × List Run) (fun z => head206b m as gv z.2 z.1) (fun z => z.1 ≤ m.wants.length ∧ z.2 = (m.wants.take z.1).foldl addRun rs ∧ z.2.length ≤ 20 ∧ Asc Run.k z.2) (fun z => m.wants.length - z.1) (fun _ => _) (fun z Y hinv hY => ?_) (0, rs) hst ⟨by omega, rfl, hr, ha⟩ (by unfold big; simp only; omega)).trans rfl
  obtain ⟨i, xs⟩ := z
  obtain ⟨g1, g2, g3, g4⟩ := hinv
  simp only at g1 g2 g3 g4 hY ⊢
  by_cases hi : i < m.wants.length
  · have hiI : (i : Int) < m.wants.length := by omega
    have hw : IntKind.i64.wrap ((i : Int) + 1) = (i : Int) + 1 := i64w (by omega) (by omega)
    obtain ⟨w, hgw⟩ : ∃ w, m.wants[i] = w := ⟨_, rfl⟩
    have hwi : m.wants[i]? = some w := by rw [← hgw]; exact List.getElem?_eq_getElem hi
    have htk : m.wants.take (i + 1) = m.wants.take i ++ [w] := by rw [List.take_add_one, hwi]; rfl
    have hnx : (m.wants.take (i + 1)).foldl addRun rs = addRun xs w := by rw [htk, List.foldl_append, ← g2]; rfl
    have hadd : addRun xs w = if 20 ≤ xs.length || xs.any (fun r => sEq r.want.copy w.copy) then xs else putBy Run.k (newRun w) xs := rfl
    have hal' := addRun_len (w := w) g3
    have haa := addRun_asc (w := w) g4
    have rp : rowsPlain [[AV.str w.copy, .int .i64 w.version, .str w.hold, .int .i64 w.pull, .int .i64 w.start, .int .i64 w.dies, .int .i64 w.grace, .int .i64 1, .int .i64 w.pull, .int .i64 0, .int .i64 0]] = true := plain_run [newRun w]
    rcases xs with _ | ⟨x0, xs⟩
    · have hput : addRun [] w = [newRun w] := rfl
      have hsort := sort_typed Run.c Run.k 0 (fun _ => rfl) (List.Perm.refl [newRun w]) (List.pairwise_singleton _ _)
      simp only [List.map_cons, List.map_nil, Run.c, newRun] at hsort
      obtain ⟨s1, s2⟩ := hsort
      simp [head206b, c206b2, hi, hiI, hgw]
      refine (loop_by (σ := Unit) (fun _ => head206f m as gv w i) (fun _ => True) (fun _ => 0) (fun _ => _) (fun z Y2 _ hY2 => ?_) () ?_ trivial (by unfold big; omega)).trans rfl
      · simp [head206f, c206b1, takeRows, rp, isRef, sortTab, s1, s2]
        refine hY (i + 1, [newRun w]) _ ⟨by simp only; omega, by rw [hnx, hput], by simp, List.pairwise_singleton _ _⟩ (by simp only; omega) ?_
        simp [head206b, zeroM, hw, newRun]
      · simp [head206f, zeroM]
    · simp [head206b, c206b2, hi, hiI, hgw]
      refine (loop_list (x0 :: xs) (fun j (b : Bool) => head206e m as gv (x0 :: xs) w i b j) (fun j b => b = ((x0 :: xs).take j).any (fun r => sEq r.want.copy w.copy)) (fun _ _ _ => _) (fun b Y2 hb => ?_) (fun j r rr b Y2 hjr hj hrr hb hY2 => ?_) false ?_ rfl ?_).trans rfl
      · rw [List.take_length] at hb
        rw [← hb] at hadd
        have hlI : (xs.length : Int) + 1 = ((x0 :: xs).length : Int) := by simp
        by_cases hskip : b = true ∨ 20 ≤ (x0 :: xs).length
        · have hsk : addRun (x0 :: xs) w = x0 :: xs := by
            rw [hadd]
            rcases hskip with h | h
            · simp [h]
            · rw [if_pos (by simp only [Bool.or_eq_true, decide_eq_true_eq]; exact .inl h)]
          have go : ∀ st, st.norm [2, 4, 6, 7, 133, 134, 135] = head206b m as gv (x0 :: xs) (i + 1) → fin [.cell 4 9 true, .tmp 5] 0 (Y st) = some (resT (mAsks (mLives m)) (tickOut (mLives m))) := fun st h => hY (i + 1, x0 :: xs) st ⟨by simp only; omega, by rw [hnx, hsk], g3, g4⟩ (by simp only; omega) h
          cases b
          · have h20 : ¬ (xs.length : Int) + 1 < 20 := by have h := hskip.resolve_left (by simp); simp only [List.length_cons] at h; omega
            simp [head206e, c206b1, h20]
            refine go _ ?_
            simp [head206b, zeroM, hw]
          · simp [head206e, c206b1]
            refine go _ ?_
            simp [head206b, zeroM, hw]
        · obtain ⟨hb0, h20⟩ := not_or.1 hskip
          have hb1 : b = false := by simpa using hb0
          subst hb1
          have hput : addRun (x0 :: xs) w = putBy Run.k (newRun w) (x0 :: xs) := by
            rw [hadd, if_neg]
            simp only [Bool.or_false, decide_eq_true_eq]
            exact h20
          have hlk : Lacks Run.k (Run.k (newRun w)) (x0 :: xs) := fun y hy e => by
            have := List.any_eq_false.1 hb.symm y hy
            exact this ((sEq_iff _ _).2 e)
          have hsort := sort_typed Run.c Run.k 0 (fun _ => rfl) (putBy_perm Run.k (x := newRun w) (l := x0 :: xs) hlk) (putBy_asc Run.k g4)
          rw [← hput] at hsort
          have hne : ∃ y0 ys, addRun (x0 :: xs) w = y0 :: ys := by
            cases e : addRun (x0 :: xs) w with
            | nil => have := (putBy_perm Run.k (x := newRun w) (l := x0 :: xs) hlk).length_eq; rw [← hput, e] at this; simp at this
            | cons y0 ys => exact ⟨y0, ys, rfl⟩
          obtain ⟨y0, ys, hys⟩ := hne
          rw [hys] at hsort hnx hal' haa
          simp only [List.map_append, List.map_cons, List.map_nil, Run.c, newRun, List.cons_append] at hsort
          obtain ⟨s1, s2⟩ := hsort
          simp only [List.length_cons] at h20
          have h20I : (xs.length : Int) + 1 < 20 := by omega
          have e1 : (xs.length + 1 + 1) * 104 ≤ 140737488355328 := by omega
          have e2 : xs.length + 1 + 1 ≤ 140737488355328 := by omega
          have e3 : xs.length + 1 + 1 ≤ 1000000000 := by omega
          simp [head206e, c206b1, h20I, takeRows, rp, e1, e2, e3, isRef, sortTab, s1, s2]
          refine hY (i + 1, y0 :: ys) _ ⟨by simp only; omega, by rw [hnx], hal', haa⟩ (by simp only; omega) ?_
          simp [head206b, zeroM, hw]
      · have hwj : IntKind.i64.wrap ((j : Int) + 1) = (j : Int) + 1 := i64w (by omega) (by simp only [List.length_cons] at hj g3; omega)
        obtain ⟨_, hgj⟩ := List.getElem?_eq_some_iff.1 hjr
        have hjI : (j : Int) < (xs.length : Int) + 1 := by simp only [List.length_cons] at hj; omega
        have hjN : j < xs.length + 1 := by simpa using hj
        have htk2 : (x0 :: xs).take (j + 1) = (x0 :: xs).take j ++ [r] := by rw [List.take_add_one, hjr]; rfl
        have hrow : ∀ h, (Run.c x0 :: xs.map Run.c)[j]'h = Run.c r := fun h => by
          have : (x0 :: xs).map Run.c = Run.c x0 :: xs.map Run.c := rfl
          simp only [← this, List.getElem_map, hgj]
        simp only [Run.c] at hrow
        have hb2 : (b || sEq r.want.copy w.copy) = ((x0 :: xs).take (j + 1)).any (fun r => sEq r.want.copy w.copy) := by rw [htk2, List.any_append, ← hb]; simp
        cases b
        · cases q : sEq r.want.copy w.copy
          · simp [head206e, c206b1, hjI, hjN, hrow, q]
            refine hY2 false _ (by rw [← hb2, q]; rfl) ?_
            simp [head206e, zeroM, hwj]
          · simp [head206e, c206b1, hjI, hjN, hrow, q]
            refine hY2 true _ (by rw [← hb2, q]; rfl) ?_
            simp [head206e, zeroM, hwj]
        · simp [head206e, c206b1, hjI, hjN, hrow]
          refine hY2 true _ (by rw [← hb2]; rfl) ?_
          simp [head206e, zeroM, hwj]
      · simp [head206e, zeroM]
      · simp only [List.length_cons] at g3 ⊢; unfold big; omega
  · obtain rfl : i = m.wants.length := by omega
    rw [List.take_length] at g2
    have hm2 := hml xs g2
    rw [hm2]
    rcases xs with _ | ⟨x0, xs⟩
    · have key := asks206 { m with runs := [], asks := as, gives := gv } false (fun _ => rfl) (by simp only; omega) (by simp) hal hag.a (by simp only; omega)
      simp [head206b, c206b2, kn206b, ta206]
      refine key _ ?_
      simp [head206c, outV, outH, runV, runH, oN, zeroM]
    · have key := asks206 { m with runs := x0 :: xs, asks := as, gives := gv } true (fun h => nomatch h) (by simp only; omega) g3 hal hag.a (by simp only; omega)
      simp [head206b, c206b2, kn206b, ta206]
      refine key _ ?_
      simp [head206c, outV, outH, runV, runH, oN, zeroM]

set_option maxHeartbeats 0 in
theorem lives206 (m : Mate) (hwl : m.wants.length ≤ 10) (hr : m.runs.length ≤ 20) (ha : Asc Run.k m.runs) (hsane : ∀ r ∈ m.runs, Sane r) (hal : m.asks.length ≤ 20) (hgl : m.gives.length ≤ 20) (hag : AG m.asks m.gives) (st : St) (hst : st.norm [2, 4, 6, 7, 69, 70, 71] = head206a m ⟨[], m.asks, m.gives⟩ 0) :
    fin [.cell 4 9 true, .tmp 5] 0 (X F [.code (.loop [2, 4, 6, 7, 69, 70, 71] c206b0), .blk 0, .code kn206, .code ta206] (.normal, st)) = some (resT (mAsks (mLives m)) (tickOut (mLives m))) := by
  refine (loop_by (σ := Nat × LV) (fun z => head206a m z.2 z.1) (fun z => z.1 ≤ m.runs.length ∧ z.2 = (m.runs.take z.1).foldl (liveStep m.clock m.wants) ⟨[], m.asks, m.gives⟩ ∧ z.2.runs.length ≤ z.1 ∧ z.2.asks.length ≤ 20 ∧ z.2.gives.length ≤ 20 + z.1 ∧ AG z.2.asks z.2.gives) (fun z => m.runs.length - z.1) (fun _ => _) (fun z Y hinv hY => ?_) (0, ⟨[], m.asks, m.gives⟩) hst ⟨by omega, rfl, by simp, hal, by simp only; omega, hag⟩ (by unfold big; simp only; omega)).trans rfl
  obtain ⟨i, rs, as', gv⟩ := z
  obtain ⟨g1, g2, g4, g5, g6, g7⟩ := hinv
  simp only at g1 g2 g4 g5 g6 g7 hY ⊢
  by_cases hi : i < m.runs.length
  · have hiI : (i : Int) < m.runs.length := by omega
    have hw : IntKind.i64.wrap ((i : Int) + 1) = (i : Int) + 1 := i64w (by omega) (by omega)
    obtain ⟨r, hgr⟩ : ∃ r, m.runs[i] = r := ⟨_, rfl⟩
    have hri : m.runs[i]? = some r := by rw [← hgr]; exact List.getElem?_eq_getElem hi
    have hsr := hsane r (List.mem_of_getElem? hri)
    have htk : m.runs.take (i + 1) = m.runs.take i ++ [r] := by rw [List.take_add_one, hri]; rfl
    have hnx : (m.runs.take (i + 1)).foldl (liveStep m.clock m.wants) ⟨[], m.asks, m.gives⟩ = liveStep m.clock m.wants ⟨rs, as', gv⟩ r := by rw [htk, List.foldl_append, ← g2]; rfl
    have w182 := law182 m.wants r.want.copy (by unfold big; omega)
    have hsl := hsr.left
    have hsf := hsr.falls
    have w14 := law14 r ((findW m.wants r.want.copy).getD .zero) (findW m.wants r.want.copy).isSome m.clock ⟨by omega, by omega⟩ ⟨by omega, by omega⟩
    have hlv : liveOf m.clock m.wants r = mateLive r ((findW m.wants r.want.copy).getD .zero) (findW m.wants r.want.copy).isSome m.clock := rfl
    unfold liveRes at w14
    rw [← hlv] at w14
    generalize (findW m.wants r.want.copy).getD .zero = w at w182 w14
    generalize (findW m.wants r.want.copy).isSome = b at w182 w14
    simp only [Want.c, Run.c] at w182 w14
    cases hlo : liveOf m.clock m.wants r with
    | some n =>
      have hst : liveStep m.clock m.wants ⟨rs, as', gv⟩ r = ⟨rs ++ [n], as', gv⟩ := by unfold liveStep; rw [hlo]
      rw [hlo] at w14
      simp only [Option.getD_some, Option.isSome_some] at w14
      have rp : rowsPlain [[AV.str n.want.copy, .int .i64 n.want.version, .str n.want.hold, .int .i64 n.want.pull, .int .i64 n.want.start, .int .i64 n.want.dies, .int .i64 n.want.grace, .int .i64 n.state, .int .i64 n.left, .int .i64 n.falls, .int .i64 n.til]] = true := plain_run [n]
      have hc1 : (rs.length + 1) * 104 ≤ 140737488355328 := by omega
      have hc2 : rs.length + 1 ≤ 140737488355328 := by omega
      rcases rs with _ | ⟨r0, rs⟩
      · skip
        simp [head206a, c206b0, hi, hiI, hgr, w182, w14, takeRows, rp, hc1, hc2]
        refine hY (i + 1, ⟨[n], _, _⟩) _ ⟨by simp only; omega, (hnx.trans hst).symm, by simp at g4 ⊢ <;> omega, g5, Nat.le_succ_of_le g6, g7⟩ (by simp only; omega) ?_
        simp [head206a, zeroM, hw]
      · simp only [List.length_cons] at hc1 hc2
        simp [head206a, c206b0, hi, hiI, hgr, w182, w14, takeRows, rp, hc1, hc2]
        refine hY (i + 1, ⟨r0 :: rs ++ [n], _, _⟩) _ ⟨by simp only; omega, (hnx.trans hst).symm, by simp at g4 ⊢ <;> omega, g5, Nat.le_succ_of_le g6, g7⟩ (by simp only; omega) ?_
        simp [head206a, zeroM, hw]
    | none =>
      have hst : liveStep m.clock m.wants ⟨rs, as', gv⟩ r = giveUp r.want.hold ⟨rs, as', gv⟩ := by unfold liveStep; rw [hlo]
      rw [hlo] at w14
      simp [Run.zero] at w14
      have w113 := law113 as' r.want.hold (by omega)
      have hdl : (dropHold as' r.want.hold).length ≤ as'.length := List.length_filter_le _ _
      cases q : sEq r.want.hold ⟨#[]⟩
      · rcases askOf_at as' r.want.hold with ⟨e, hno⟩ | ⟨k, hkl, e, hso, hsh⟩
        · have hgu : giveUp r.want.hold ⟨rs, as', gv⟩ = ⟨rs, as', gv⟩ := by unfold giveUp; rw [q, hno]; rfl
          rw [e] at w113
          rcases rs with _ | ⟨r0, rs⟩
          · skip
            simp [head206a, c206b0, hi, hiI, hgr, w182, w14, q, w113]
            refine hY (i + 1, ⟨_, _, _⟩) _ ⟨by simp only; omega, by rw [hnx, hst, hgu], Nat.le_succ_of_le g4, g5, Nat.le_succ_of_le g6, g7⟩ (by simp only; omega) ?_
            simp [head206a, zeroM, hw]
          · skip
            simp [head206a, c206b0, hi, hiI, hgr, w182, w14, q, w113]
            refine hY (i + 1, ⟨_, _, _⟩) _ ⟨by simp only; omega, by rw [hnx, hst, hgu], Nat.le_succ_of_le g4, g5, Nat.le_succ_of_le g6, g7⟩ (by simp only; omega) ?_
            simp [head206a, zeroM, hw]
        · rw [e] at w113
          have hgu : giveUp r.want.hold ⟨rs, as', gv⟩ = ⟨rs, dropHold as' r.want.hold, if gv.length < 40 then putBy Ask.k as'[k] gv else gv⟩ := by unfold giveUp; rw [q, hso]; rfl
          have w137 := law137 as' k hkl (by omega)
          have hds := dropAt_same g7.a hkl
          rw [hsh] at hds
          have g7' := g7.give (List.getElem_mem hkl)
          have hlk : Lacks Ask.k as'[k].hold gv := fun y hy => Ne.symm (g7.apart _ (List.getElem_mem hkl) y hy)
          rw [hsh] at g7'
          obtain ⟨ask, hask⟩ : ∃ ask, as'[k] = ask := ⟨_, rfl⟩
          rw [hask] at hgu g7' hlk
          have hlt : gv.length < 40 := by omega
          have hltI : (gv.length : Int) < 40 := by omega
          rw [if_pos hlt] at hgu
          have w219 := law219 gv ask (by omega) g7.g hlk
          have hpl := putBy_len Ask.k ask gv
          simp only [Ask.c] at w219
          rcases rs with _ | ⟨r0, rs⟩
          · skip
            simp [head206a, c206b0, hi, hiI, hgr, w182, w14, q, w113, hkl, hask, hlt, hltI, w137, w219, AO.isArr]
            refine hY (i + 1, ⟨_, dropHold as' r.want.hold, putBy Ask.k ask gv⟩) _ ⟨by simp only; omega, by rw [hnx, hst, hgu], Nat.le_succ_of_le g4, Nat.le_trans hdl g5, Nat.le_trans hpl (Nat.succ_le_succ g6), g7'⟩ (by simp only; omega) ?_
            simp [head206a, zeroM, hw, hds]
          · skip
            simp [head206a, c206b0, hi, hiI, hgr, w182, w14, q, w113, hkl, hask, hlt, hltI, w137, w219, AO.isArr]
            refine hY (i + 1, ⟨_, dropHold as' r.want.hold, putBy Ask.k ask gv⟩) _ ⟨by simp only; omega, by rw [hnx, hst, hgu], Nat.le_succ_of_le g4, Nat.le_trans hdl g5, Nat.le_trans hpl (Nat.succ_le_succ g6), g7'⟩ (by simp only; omega) ?_
            simp [head206a, zeroM, hw, hds]
      · have hgu : giveUp r.want.hold ⟨rs, as', gv⟩ = ⟨rs, as', gv⟩ := by unfold giveUp; rw [q]; rfl
        rcases rs with _ | ⟨r0, rs⟩
        · skip
          simp [head206a, c206b0, hi, hiI, hgr, w182, w14, q, w113]
          refine hY (i + 1, ⟨_, _, _⟩) _ ⟨by simp only; omega, by rw [hnx, hst, hgu], Nat.le_succ_of_le g4, g5, Nat.le_succ_of_le g6, g7⟩ (by simp only; omega) ?_
          simp [head206a, zeroM, hw]
        · skip
          simp [head206a, c206b0, hi, hiI, hgr, w182, w14, q, w113]
          refine hY (i + 1, ⟨_, _, _⟩) _ ⟨by simp only; omega, by rw [hnx, hst, hgu], Nat.le_succ_of_le g4, g5, Nat.le_succ_of_le g6, g7⟩ (by simp only; omega) ?_
          simp [head206a, zeroM, hw]
  · obtain rfl : i = m.runs.length := by omega
    rw [List.take_length] at g2
    have hlv : livesOf m = ⟨rs, as', gv⟩ := g2.symm
    have hra := livesOf_asc ha
    rw [hlv] at hra
    have key := wants206 m hwl as' gv rs (by omega) hra (by omega) (by omega) g7 hlv
    rcases rs with _ | ⟨r0, rs⟩
    · simp [head206a, c206b0, kn206]
      refine key _ ?_
      simp [head206b, zeroM]
    · simp [head206a, c206b0, kn206]
      refine key _ ?_
      simp [head206b, zeroM]

set_option maxHeartbeats 0 in
theorem law206 (m : Mate) (rate : Int) (hm : m.small) (ha : m.asks.length ≤ 20) (hg : m.gives.length ≤ 20) (_ : I64 rate) : F 206 [.agg (m.c .bor), .int .i64 rate] [] = some (.tup [.agg ((mateTick m rate).1.c .own), .sl .own 7 ((mateTick m rate).2.map (Parcel.c .own))], []) := by
  refine F_run fn206 rfl ?_
  have w1 := law28 m hm
  have w2 := law117 m hm
  simp only [Mate.c] at w1 w2
  unfold mateTick
  cases q1 : mateValid m
  · simp [c206_cut, w1, q1, Mate.zero]
  rw [q1] at w1
  have hv := validIs q1
  obtain ⟨hc0, hc1⟩ := hv.clock
  cases q2 : inR rate 1 4
  · simp only [inR, Bool.and_eq_false_iff, decide_eq_false_iff_not] at q2
    by_cases q3 : rate < 1
    · simp [c206_cut, w1, w2, q3]
    · have q4 : 4 < rate := by omega
      simp [c206_cut, w1, w2, q3, q4]
  have q2' := q2
  simp only [inR, Bool.and_eq_true, decide_eq_true_eq] at q2'
  have r1 : ¬ rate < 1 := by omega
  have r2 : ¬ 4 < rate := by omega
  have hw : IntKind.i64.wrap (m.clock + rate) = m.clock + rate := i64w (by omega) (by omega)
  by_cases q3 : 1000000 < m.clock + rate
  · have w3 := law36 m true hm
    simp only [Mate.c] at w3
    simp [c206_cut, w1, w2, w3, r1, r2, hw, q3]
  have w4 := law18 m.runs (m.clock + rate) hm.runs
  have hfit : Fit (tickOn m rate) 0 := ⟨hv.wants, by simp [tickOn]; exact hv.runs, wd_asc hv.runsAsc, ha, by simp [tickOn]; exact hg⟩
  have hsane : ∀ r ∈ (tickOn m rate).runs, Sane r := fun r hr => by
    obtain ⟨r', h1, rfl⟩ := List.mem_map.1 hr
    exact wd_sane (hv.sane r' h1)
  cases q4 : m.up
  · rw [q4] at w1 w2
    simp [c206_cut, w1, w2, w4, r1, r2, hw, q3, q4, tickOn]
  rw [q4] at w1 w2
  obtain ⟨y, hy⟩ : ∃ y, y = tickOn m rate := ⟨_, rfl⟩
  have y1 : y.name = m.name := by rw [hy]; rfl
  have y2 : y.up = true := by rw [hy]; exact q4
  have y3 : y.clock = m.clock + rate := by rw [hy]; rfl
  have y4 : y.known = m.known := by rw [hy]; rfl
  have y5 : y.seen = m.seen := by rw [hy]; rfl
  have y6 : y.wants = m.wants := by rw [hy]; rfl
  have y7 : m.runs.map (wd (m.clock + rate)) = y.runs := by rw [hy]; rfl
  have y8 : y.asks = m.asks := by rw [hy]; rfl
  have y9 : y.gives = m.gives := by rw [hy]; rfl
  have hag : AG y.asks y.gives := by rw [y8, y9]; exact ⟨hv.asks, hv.gives, hv.apart⟩
  rw [y7] at w4
  rw [← hy] at hfit hsane ⊢
  clear hy
  cases q5 : m.known
  · rw [q5] at w1 w2 y4
    have hk : tickRuns y = y := by unfold tickRuns; rw [y4]; rfl
    rw [hk]
    have key := asks206 y true (fun h => nomatch h) (by have := hfit.wants; omega) hfit.runs hfit.asks hag.a (by have := hfit.gives; omega)
    simp [c206_cut, w1, w2, w4, r1, r2, hw, q3, q4, q5, ta206]
    refine (key _ ?_).trans ?_
    · simp [head206c, outV, outH, runV, runH, oN, y1, y2, y3, y4, y5, y6, y8, y9, zeroM]
    · simp [resT]
  · rw [q5] at w1 w2 y4
    have hk : tickRuns y = mLives y := by unfold tickRuns; rw [y4]; rfl
    rw [hk]
    have key := lives206 y hfit.wants hfit.runs hfit.asc hsane hfit.asks (by have := hfit.gives; omega) hag
    simp [c206_cut, w1, w2, w4, r1, r2, hw, q3, q4, q5]
    refine (key _ ?_).trans ?_
    · simp [head206a, y1, y2, y3, y4, y5, y6, y8, y9, zeroM]
    · simp [resT]
end Go.Proofs.YtpiljklnekefoaaGreatDoor

namespace Go.Proofs.YtpiljklnekefoaaGreatDoor
open Go
set_option linter.unusedSimpArgs false
set_option maxRecDepth 100000

def tl268b : CCode := (.seq (.region [
    ⟨some 117, .mov (.tmp 0), none⟩,
    ⟨some 118, .call 269 [false] [.tmp 117], none⟩,
    ⟨some 116, .mov (.tmp 118), none⟩,
    ⟨some 119, .ext (.tmp 116) 0, none⟩,
    ⟨some 120, .ext (.tmp 116) 1, none⟩,
    ⟨some 12, .alloc [.str ⟨#[]⟩, .bool false, .int .i64 0, .bool false, .int .i64 0, .sl .own 7 [], .sl .own 11 [], .sl .own 4 [], .sl .own 4 []], none⟩,
    ⟨some 13, .alloc [.int .i64 0, .str ⟨#[]⟩, .int .i64 0, .sl .own 7 [], .str ⟨#[]⟩, .str ⟨#[]⟩, .int .i64 0], none⟩,
    ⟨none, .store (.tmp 12) (.tmp 119) 9, none⟩,
    ⟨none, .store (.tmp 13) (.tmp 120) 7, none⟩] [12, 13])
  (.seq (.region [
    ⟨some 121, .load (.tmp 12) 9 true .plain, none⟩,
    ⟨some 122, .load (.tmp 13) 7 true .plain, none⟩,
    ⟨some 123, .call 61 [false, false] [.tmp 121, .tmp 122], none⟩,
    ⟨some 14, .alloc [.str ⟨#[]⟩, .bool false, .int .i64 0, .bool false, .int .i64 0, .sl .own 7 [], .sl .own 11 [], .sl .own 4 [], .sl .own 4 []], none⟩,
    ⟨none, .store (.tmp 14) (.tmp 123) 9, none⟩] [12, 13, 14])
  (.seq (.loud [
    ⟨some 124, .load (.tmp 14) 9 true .plain, none⟩,
    ⟨some 125, .load (.tmp 12) 9 true .plain, none⟩,
    ⟨some 126, .load (.tmp 13) 7 true .plain, none⟩,
    ⟨some 127, .call 64 [false, false] [.tmp 125, .tmp 126], none⟩,
    ⟨some 128, .call 33 [false, false] [.tmp 124, .tmp 127], none⟩,
    ⟨some 129, .mov (.tmp 128), none⟩,
    ⟨some 130, .load (.tmp 12) 9 true .plain, some (129, true)⟩,
    ⟨some 131, .call 29 [false] [.tmp 130], some (129, true)⟩,
    ⟨some 132, .un .not (.tmp 131), some (129, true)⟩,
    ⟨some 133, .mov (.tmp 132), some (129, true)⟩,
    ⟨some 134, .load (.tmp 14) 9 true .plain, some (133, false)⟩,
    ⟨some 135, .call 28 [false] [.tmp 134], some (133, false)⟩,
    ⟨some 136, .pick (.tmp 133) (.const (.bool true)) (.tmp 135), some (129, true)⟩,
    ⟨some 137, .pick (.tmp 129) (.tmp 136) (.const (.bool false)), none⟩,
    ⟨some 2, .mov (.tmp 137), none⟩] [0, 0, 0, 6, 15, 31, 63, 127, 255, 511, 1023, 2047, 4095, 8191, 16383] [2])
  .ret)))
theorem c268_cut : c268 = ⟨138, [.tmp 2],
  (.seq (.region [
    ⟨some 2, .mov (.const (.bool false)), none⟩] [0])
  (.seq (.seq (.region [
    ⟨some 15, .mov (.tmp 0), none⟩,
    ⟨some 16, .len false (.tmp 15), none⟩,
    ⟨some 17, .bin .gtr (.tmp 16) (.const (.int .i64 1048576)), none⟩] [0, 17])
  (.cond (.tmp 17)
    (.seq (.region [
      ⟨some 2, .mov (.const (.bool true)), none⟩] [2])
    .ret)
    .skip))
  (.seq (.region [
    ⟨some 19, .mov (.tmp 0), none⟩,
    ⟨some 20, .call 270 [false] [.tmp 19], none⟩,
    ⟨some 18, .mov (.tmp 20), none⟩,
    ⟨some 21, .ext (.tmp 18) 0, none⟩,
    ⟨some 22, .ext (.tmp 18) 1, none⟩,
    ⟨some 3, .alloc [.str ⟨#[]⟩, .bool false, .int .i64 0, .bool false, .int .i64 0, .sl .own 7 [], .sl .own 11 [], .sl .own 4 [], .sl .own 4 []], none⟩,
    ⟨none, .store (.tmp 3) (.tmp 21) 9, none⟩,
    ⟨some 4, .mov (.tmp 22), none⟩] [0, 3, 4])
  (.seq (.region [
    ⟨some 24, .load (.tmp 3) 9 true .plain, none⟩,
    ⟨some 25, .mov (.tmp 4), none⟩,
    ⟨some 26, .call 206 [false, false] [.tmp 24, .tmp 25], none⟩,
    ⟨some 23, .mov (.tmp 26), none⟩,
    ⟨some 27, .ext (.tmp 23) 0, none⟩,
    ⟨some 28, .ext (.tmp 23) 1, none⟩,
    ⟨some 5, .alloc [.str ⟨#[]⟩, .bool false, .int .i64 0, .bool false, .int .i64 0, .sl .own 7 [], .sl .own 11 [], .sl .own 4 [], .sl .own 4 []], none⟩,
    ⟨none, .store (.tmp 5) (.tmp 27) 9, none⟩,
    ⟨some 6, .mov (.tmp 28), none⟩] [0, 3, 4, 5, 6])
  (.seq (.region [
    ⟨some 30, .load (.tmp 3) 9 true .plain, none⟩,
    ⟨some 31, .mov (.tmp 4), none⟩,
    ⟨some 32, .call 234 [false, false] [.tmp 30, .tmp 31], none⟩,
    ⟨some 29, .mov (.tmp 32), none⟩,
    ⟨some 33, .ext (.tmp 29) 0, none⟩,
    ⟨some 34, .ext (.tmp 29) 1, none⟩,
    ⟨some 7, .alloc [.str ⟨#[]⟩, .bool false, .int .i64 0, .bool false, .int .i64 0, .sl .own 7 [], .sl .own 11 [], .sl .own 4 [], .sl .own 4 []], none⟩,
    ⟨none, .store (.tmp 7) (.tmp 33) 9, none⟩,
    ⟨some 8, .mov (.tmp 34), none⟩] [0, 3, 5, 6, 7, 8])
  (.seq (.seq (.region [
    ⟨some 35, .load (.tmp 5) 9 true .plain, none⟩,
    ⟨some 36, .load (.tmp 7) 9 true .plain, none⟩,
    ⟨some 37, .call 33 [false, false] [.tmp 35, .tmp 36], none⟩,
    ⟨some 38, .un .not (.tmp 37), none⟩,
    ⟨some 39, .mov (.tmp 38), none⟩,
    ⟨some 40, .mov (.tmp 6), some (39, false)⟩,
    ⟨some 41, .mov (.tmp 8), some (39, false)⟩,
    ⟨some 42, .call 75 [false, false] [.tmp 40, .tmp 41], some (39, false)⟩,
    ⟨some 43, .un .not (.tmp 42), some (39, false)⟩,
    ⟨some 44, .pick (.tmp 39) (.const (.bool true)) (.tmp 43), none⟩] [0, 3, 5, 6, 44])
  (.cond (.tmp 44)
    (.seq (.region [
      ⟨some 2, .mov (.const (.bool false)), none⟩] [2])
    .ret)
    .skip))
  (.seq (.seq (.region [
    ⟨some 45, .load (.tmp 3) 9 true .plain, none⟩,
    ⟨some 46, .call 29 [false] [.tmp 45], none⟩,
    ⟨some 47, .un .not (.tmp 46), none⟩] [0, 3, 5, 6, 47])
  (.cond (.tmp 47)
    (.seq (.region [
      ⟨some 48, .mov (.tmp 6), none⟩,
      ⟨some 49, .len false (.tmp 48), none⟩,
      ⟨some 50, .bin .eql (.tmp 49) (.const (.int .i64 0)), none⟩,
      ⟨some 51, .mov (.tmp 50), none⟩,
      ⟨some 52, .faddr (.tmp 5) 0, some (51, true)⟩,
      ⟨some 53, .load (.tmp 52) 1 false .plain, some (51, true)⟩,
      ⟨some 54, .bin .eql (.tmp 53) (.const (.str ⟨#[]⟩)), some (51, true)⟩,
      ⟨some 55, .pick (.tmp 51) (.tmp 54) (.const (.bool false)), none⟩,
      ⟨some 56, .mov (.tmp 55), none⟩,
      ⟨some 57, .load (.tmp 3) 9 true .plain, some (56, true)⟩,
      ⟨some 58, .call 28 [false] [.tmp 57], some (56, true)⟩,
      ⟨some 59, .un .not (.tmp 58), some (56, true)⟩,
      ⟨some 60, .pick (.tmp 56) (.tmp 59) (.const (.bool false)), none⟩,
      ⟨some 2, .mov (.tmp 60), none⟩] [2])
    .ret)
    .skip))
  (.seq (.seq (.region [
    ⟨some 61, .load (.tmp 5) 9 true .plain, none⟩,
    ⟨some 62, .call 28 [false] [.tmp 61], none⟩,
    ⟨some 63, .un .not (.tmp 62), none⟩,
    ⟨some 64, .mov (.tmp 63), none⟩,
    ⟨some 65, .load (.tmp 5) 9 true .plain, some (64, false)⟩,
    ⟨some 66, .call 29 [false] [.tmp 65], some (64, false)⟩,
    ⟨some 67, .un .not (.tmp 66), some (64, false)⟩,
    ⟨some 68, .pick (.tmp 64) (.const (.bool true)) (.tmp 67), none⟩,
    ⟨some 69, .mov (.tmp 68), none⟩,
    ⟨some 70, .faddr (.tmp 5) 2, some (69, false)⟩,
    ⟨some 71, .load (.tmp 70) 1 false .plain, some (69, false)⟩,
    ⟨some 72, .faddr (.tmp 3) 2, some (69, false)⟩,
    ⟨some 73, .load (.tmp 72) 1 false .plain, some (69, false)⟩,
    ⟨some 74, .bin .lss (.tmp 71) (.tmp 73), some (69, false)⟩,
    ⟨some 75, .pick (.tmp 69) (.const (.bool true)) (.tmp 74), none⟩] [0, 5, 6, 75])
  (.cond (.tmp 75)
    (.seq (.region [
      ⟨some 2, .mov (.const (.bool false)), none⟩] [2])
    .ret)
    .skip))
  (.seq (.seq (.region [
    ⟨some 9, .mov (.const (.int .i64 0)), none⟩] [0, 5, 6, 9])
  (.block 0
    (.loop [0, 5, 6, 9] c268b0)))
  (.seq (.seq (.region [
    ⟨some 11, .mov (.const (.int .i64 0)), none⟩] [0, 6, 11])
  (.block 2
    (.loop [0, 6, 11] c268b1)))
  tl268b))))))))))⟩ := rfl

def head268a (bs : List Int) (x : Mate) (out : List Parcel) (i : Nat) : St :=
  hd [(0, .sl .imm 1 (bs.map rowB)), (5, .ptr 0 0 0), (6, .ref 1), (9, .int .i64 i)] ([.box (cellsA 2 x), .arr 7 (out.map (Parcel.c .own))] ++ arrsA x) 0
def head268b (bs : List Int) (out : List Parcel) (i : Nat) : St :=
  hd [(0, .sl .imm 1 (bs.map rowB)), (6, .ref 0), (11, .int .i64 i)] [.arr 7 (out.map (Parcel.c .own))] 0

theorem mate_rest (bs : List Int) (out : List Parcel) (ho : out.length ≤ 1000) (hps : ∀ p ∈ out, p.small) (hf : ∀ p ∈ out, parcelForm p ≠ ⟨#[]⟩) (n : Mate) (p : Parcel) (w269 : F 269 [.sl .imm 1 (bs.map rowB)] [] = some (.tup [.agg (n.c .own), .agg (p.c .own)], [])) (hn : n.small) (hp : p.wants.length ≤ 10) (s : St) (hs : s.norm [0, 6, 11] = head268b bs out 0) :
    fin [CRes.tmp 2] 0 (X F [.code (.loop [0, 6, 11] c268b1), .blk 2, .code tl268b] (.normal, s)) = some (.bool true, []) := by
  refine (loop_list out (fun i (_ : Unit) => head268b bs out i) (fun _ _ => True) (fun _ _ _ => (AV.bool true, ([] : List (Option AO)))) (fun acc Y _ => ?_) (fun i a r acc Y ha hi hr _ hY => ?_) () hs trivial ?_)
  · have v9 := law61 n p hn (by omega)
    have v10 := law64 n p hn (by omega)
    have ht := take_small hn hp
    have ht2 : mateValid n = true → mateValid (mateTake n p) = true := fun h => mateIs_iff.2 (take_is (mateIs_iff.1 h))
    have v13 := law29 n hn
    generalize mateTake n p = y at *
    have v11 := law33 y ht
    have v12 := law28 y ht
    simp only [Mate.c, Parcel.c] at w269 v9 v10 v11 v12 v13
    cases q : mateValid n
    · simp [head268b, c268b1, tl268b, w269, v9, v10, v11, v12, v13, q]
    · have q2 := ht2 q
      simp [head268b, c268b1, tl268b, w269, v9, v10, v11, v12, v13, q, q2]
  · have hw : IntKind.i64.wrap ((i : Int) + 1) = (i : Int) + 1 := i64w (by omega) (by omega)
    obtain ⟨_, hg⟩ := List.getElem?_eq_some_iff.1 ha
    have hm := List.mem_of_getElem? ha
    have hiI : (i : Int) < out.length := by omega
    have w218 := law218 a (hps a hm)
    have hne : sEq (parcelForm a) ⟨#[]⟩ = false := sEq_ne (hf a hm)
    simp only [Parcel.c] at w218
    simp [head268b, c268b1, hi, hiI, hg, w218, hne]
    refine hY () _ trivial ?_
    simp [head268b, hw]
  · unfold big; omega

theorem mate_law (bs : List Int) (hwf : ListWf Byte bs) : F 268 [.sl .imm 1 (bs.map rowB)] [] = some (.bool true, []) := by
  obtain ⟨hlen, hby⟩ := hwf
  refine F_run fn268 rfl ?_
  by_cases hl : 1048576 < bs.length
  · have hlI : (1048576 : Int) < bs.length := by omega
    simp [c268_cut, hlI]
  have hlI : ¬ (1048576 : Int) < bs.length := by omega
  obtain ⟨m, rate, w270, hs, hr⟩ := law270 bs (by omega) (fun x hx => hby x hx)
  obtain ⟨n, p, w269, hn, hp⟩ := law269 bs (by omega) (fun x hx => hby x hx)
  have hI : I64 rate := ⟨by have := hr.1; omega, by have := hr.2; omega⟩
  have v1 := law206 m rate hs.small hs.nasks hs.ngives hI
  have v2 := law234 m rate hs.small hs.nasks hs.ngives hI
  have v3 := law29 m hs.small
  have v4 := law28 m hs.small
  obtain ⟨x1, x2, x3⟩ := tick_small (rate := rate) hs
  have e1 : mateValid m = false → mateTick m rate = (.zero, []) := fun h => valid_name h rate
  have e2 : mateValid m = true → MateIs (mateTick m rate).1 ∧ m.clock ≤ (mateTick m rate).1.clock ∧ ∀ p ∈ (mateTick m rate).2, parcelForm p ≠ ⟨#[]⟩ := fun h => tick_is (mateIs_iff.1 h) hs.nasks
  generalize mateTick m rate = R at *
  obtain ⟨x, out⟩ := R
  simp only at v1 v2 x1 x2 x3 e1 e2
  have v5 := law33 x x1
  have v6 := fun a b => law75 a b out (by omega) x3
  have v7 := law28 x x1
  have v8 := law29 x x1
  simp only [Mate.c, Parcel.c] at w270 v1 v2 v3 v4 v5 v6 v7 v8
  cases q : mateValid m
  · have e := e1 q
    rw [Prod.mk.injEq] at e
    obtain ⟨rfl, rfl⟩ := e
    have v6' := v6 .bor .bor
    simp only [List.map_nil] at v6'
    simp [c268_cut, hlI, w270, v1, v2, v3, v4, v5, v6', v7, v8, q]
    exact (sEq_iff _ _).2 rfl
  · obtain ⟨n1, n2, n3⟩ := e2 q
    have n4 := mateIs_iff.2 n1
    have n5 : ¬ x.clock < m.clock := by omega
    simp [c268_cut, hlI, w270, v1, v2, v3, v4, v5, v6, v7, v8, q, n4, n5]
    refine (loop_list x.runs (fun i (_ : Unit) => head268a bs x out i) (fun _ _ => True) (fun _ _ _ => (AV.bool true, ([] : List (Option AO)))) (fun acc Y _ => ?_) (fun i a r acc Y ha hi hr _ hY => ?_) () ?_ trivial ?_)
    · simp [head268a, c268b0, cellsA, arrsA]
      refine mate_rest bs out x2 x3 n3 n p w269 hn.small hp _ ?_
      simp [head268b]
    · have hxr := x1.runs
      have hw : IntKind.i64.wrap ((i : Int) + 1) = (i : Int) + 1 := i64w (by omega) (by omega)
      obtain ⟨_, hg⟩ := List.getElem?_eq_some_iff.1 ha
      have hiI : (i : Int) < x.runs.length := by omega
      have hc := n1.clock
      have w4 : IntKind.i64.wrap (x.clock + 4) = x.clock + 4 := i64w (by omega) (by omega)
      have ra := n1.runs a (List.mem_of_getElem? ha)
      cases e1 : aliveS a.state
      · simp [head268a, c268b0, cellsA, arrsA, hi, hiI, hg, e1]
        refine hY () _ trivial ?_
        simp [head268a, cellsA, arrsA, hw]
      · cases e2 : sEq a.want.hold ⟨#[]⟩
        · have := ra.lease e1 (fun e => by rw [(sEq_iff _ _).2 e] at e2; cases e2)
          have h4 : ¬ a.til < x.clock + 4 := by omega
          simp [head268a, c268b0, cellsA, arrsA, hi, hiI, hg, e1, e2, w4, h4]
          refine hY () _ trivial ?_
          simp [head268a, cellsA, arrsA, hw]
        · simp [head268a, c268b0, cellsA, arrsA, hi, hiI, hg, e1, e2]
          refine hY () _ trivial ?_
          simp [head268a, cellsA, arrsA, hw]
    · simp [head268a, cellsA, arrsA]
    · have := x1.runs
      unfold big; omega
end Go.Proofs.YtpiljklnekefoaaGreatDoor

namespace Go.Proofs.YtpiljklnekefoaaGreatDoor
open Go Go.RowKit
set_option linter.unusedSimpArgs false

def FzIn (fz : List (Nat × Obj)) (w : World) : Prop := ∀ p ∈ fz, p.1 < w.heap.size ∧ w.heap[p.1]? = some p.2

def Ret (P : Program) (f : FuncId) (vs : Array Value) (w : World) (R : Value → World → Prop) : Prop :=
  (callFunc f vs).run P w = .ok (.enter f vs) w ∧ Calls P f vs w fun e w' => ∃ v, e = .returned v ∧ Below w.heap.size w w' ∧ R v w'

theorem Ret.callable {P : Program} {f : FuncId} {vs : Array Value} {w : World} {R R' : Value → World → Prop} (h : Ret P f vs w R) (hr : ∀ v w', Below w.heap.size w w' → R v w' → R' v w') : Callable P f vs w R' := by
  intro o a next Q hnext
  rw [h.1, Oper.upon_enter]
  refine h.2.mono fun e w' he => ?_
  obtain ⟨v, rfl, hb, hR⟩ := he
  exact hnext v w' (hr v w' hb hR)

structure PrimsOk (P : Program) (num : Nat → Option FuncId) (fz : List (Nat × Obj)) : Prop where
  sfx : ∀ f, num 222 = some f → ∀ (s p : ByteArray) (w : World), FzIn fz w → s.size ≤ 9223372036854775807 → Ret P f #[.string s, .string p] w fun v _ => v = .bool (Lib.hasSuffix s.data.toList p.data.toList)
  spl : ∀ f, num 220 = some f → ∀ (s sep : ByteArray) (w : World), FzIn fz w → s.size < 4294967281 → 1 ≤ sep.size → Ret P f #[.string s, .string sep] w fun v w' => v = .slice (some ⟨w.heap.size, 0, none⟩) (splitT s sep).length (splitT s sep).length ∧ ∃ t, w'.heap[w.heap.size]? = some (.cells ((splitT s sep).map Value.string).toArray t (0, 0))
  joi : ∀ f, num 230 = some f → ∀ (a : Option Addr) (c : Nat) (xs : List ByteArray) (sep : ByteArray) (w : World), FzIn fz w → (xs = [] ∨ ∃ b o, a = some ⟨b, o, none⟩ ∧ b < w.heap.size ∧ xs.length ≤ c ∧ ∀ (j : Nat) x, xs[j]? = some x → w.cell? ⟨b, o + j, none⟩ = some (.string x)) →
    xs.length ≤ 140737488355328 → (joinT xs sep).size ≤ 140737488355328 → Ret P f #[.slice a xs.length c, .string sep] w fun v _ => v = .string (joinT xs sep)
  ito : ∀ f, num 231 = some f → ∀ (n : Int) (w : World), FzIn fz w → -9223372036854775808 ≤ n → n ≤ 9223372036854775807 → Ret P f #[.int .i64 n] w fun v _ => v = .string (itoaT n)
  ato : ∀ f, num 221 = some f → ∀ (s : ByteArray) (w : World), FzIn fz w → s.size ≤ 281474976710656 → Ret P f #[.string s] w fun v _ => v = .int .i64 (numT s)

theorem Mem.fzIn {cx : Cx} {h : Nat → Option AO} {ep : Nat} {g : Gh} {w : World} (m : Mem cx h ep g w) : FzIn cx.fz w := fun _ hp => ⟨(m.fz_now hp).1, (m.fz_now hp).2.1⟩

theorem post_plain {cx : Cx} {h : Nat → Option AO} {g : Gh} {w w' : World} (m : Mem cx h 0 g w) (hw : cx.w0 = w) (h0 : cx.base = 0) (hb : Below w.heap.size w w') {v : Value} {r : AV} (hr : Cl w' g.I v r (fun _ => False)) (ht : r.isTup = false) :
    ∃ I N S fo, Post cx w' v r [] I N S fo := by
  refine ⟨g.I, g.N, fun _ => False, fun _ _ => False, ⟨?_, h0.symm, m.I_up, m.I_new, m.I_N, m.N_up, m.N_new, fun b h => Nat.lt_of_lt_of_le (m.N_lt b h) hb.size, .one _ _ _ (.one _ _ _ hr (fun _ h => h.elim)) ht, fun k o h => by simp at h, fun _ h => h.elim, fun _ _ _ h => h.elim, fun _ _ _ h => h.elim, fun _ _ _ _ _ h => h.elim⟩⟩
  rw [hw]
  exact ⟨hb.os, hb.tape, hb.output, hb.size, fun b h1 _ => hb.block b h1⟩

theorem post_texts {cx : Cx} {h : Nat → Option AO} {g : Gh} {w w' : World} (m : Mem cx h 0 g w) (hw : cx.w0 = w) (h0 : cx.base = 0) (hb : Below w.heap.size w w') {xs : List ByteArray} {t : TypeId} (hmax : xs.length ≤ maxLen)
    (hh : w'.heap[w.heap.size]? = some (.cells (xs.map Value.string).toArray t (0, 0))) :
    ∃ I N S fo, Post cx w' (.slice (some ⟨w.heap.size, 0, none⟩) xs.length xs.length) (.sl .own 1 (xs.map fun x => [.str x])) [] I N S fo := by
  have hlt := (Array.getElem?_eq_some_iff.1 hh).1
  have hca : ∀ i j c, cellAt (xs.map fun x => [AV.str x]) i j = some c → ∃ x, xs[i]? = some x ∧ j = 0 ∧ c = .str x := fun i j c hc => by
    obtain ⟨row, h1, h2⟩ := cellAt_some.1 hc
    rw [List.getElem?_map] at h1
    cases hi : xs[i]? with
    | none => rw [hi] at h1; cases h1
    | some x =>
      rw [hi] at h1
      simp only [Option.map_some, Option.some.injEq] at h1
      subst h1
      cases j with
      | zero => exact ⟨x, rfl, rfl, by simpa using h2.symm⟩
      | succ j => simp at h2
  refine ⟨g.I, fun b => g.N b ∨ b = w.heap.size, fun b => b = w.heap.size, fun _ _ => False, ⟨?_, h0.symm, m.I_up, m.I_new, fun b h => .inl (m.I_N b h), fun b h => .inl (m.N_up b h), fun b h => ?_, fun b h => ?_, .one _ _ _ (.one _ _ _ ?_ (fun x h => .inr h)) rfl, fun k o h => by simp at h, fun x h => ?_, fun _ _ _ h => h.elim, fun _ _ _ _ h => h, fun _ _ _ _ _ h => h.elim⟩⟩
  · rw [hw]
    exact ⟨hb.os, hb.tape, hb.output, hb.size, fun b h1 _ => hb.block b h1⟩
  · rcases h with h | h
    · exact m.N_new b h
    · exact .inr (by rw [hw, h]; exact Nat.le_refl _)
  · rcases h with h | h
    · exact Nat.lt_of_lt_of_le (m.N_lt b h) hb.size
    · rw [h]; exact hlt
  · have e : xs.length = (xs.map fun x => [AV.str x]).length := by simp
    rw [e]
    have e2 : (xs.map fun x => [AV.str x]).length = xs.length := by simp
    refine .own 1 _ w.heap.size _ (xs.map Value.string).toArray t (fun i _ => (xs[i]?.map Value.string).getD undef) (fun _ _ _ => False) _ hh (by simp) (by rw [e2]; exact hmax) (by simp) (fun row hr => ?_) (fun i j c hc => ?_) (fun i j c hc => ?_) (fun _ _ _ _ _ _ _ _ _ h => h.elim) (fun _ _ _ _ h => h) (fun x => ?_)
    · obtain ⟨x, _, rfl⟩ := List.mem_map.1 hr; rfl
    · obtain ⟨x, h1, rfl, rfl⟩ := hca i j c hc
      simp [h1]
    · obtain ⟨x, h1, rfl, rfl⟩ := hca i j c hc
      simp only [h1, Option.map_some, Option.getD_some]
      exact .str _ _ (fun _ h => h)
    · constructor
      · exact fun h => .inl h
      · rintro (h | ⟨_, _, _, _, h⟩)
        · exact h
        · exact h.elim
  · subst h
    refine ⟨.inr (by rw [hw]; exact Nat.le_refl _), fun hI => ?_⟩
    have := m.I_lt _ hI
    omega

theorem textsOf_cells : ∀ {rows : List (List AV)} {xs : List ByteArray}, textsOf rows = some xs → xs.length = rows.length ∧ ∀ (j : Nat) x, xs[j]? = some x → cellAt rows j 0 = some (.str x)
  | [], xs, h => by
    simp only [textsOf, Option.some.injEq] at h
    subst h
    exact ⟨rfl, fun j x hx => by simp at hx⟩
  | [] :: _, xs, h => by simp [textsOf] at h
  | (c :: d :: e) :: r, xs, h => by
    cases c <;> simp [textsOf] at h
  | [c] :: r, xs, h => by
    cases c <;> try (simp [textsOf] at h; done)
    rename_i s
    simp only [textsOf] at h
    cases hr : textsOf r with
    | none => rw [hr] at h; cases h
    | some ys =>
      rw [hr] at h
      simp only [Option.some.injEq] at h
      subst h
      obtain ⟨h1, h2⟩ := textsOf_cells hr
      refine ⟨by simp [h1], fun j x hx => ?_⟩
      cases j with
      | zero =>
        simp only [List.getElem?_cons_zero, Option.some.injEq] at hx
        subst hx
        exact cellAt_some.2 ⟨_, rfl, rfl⟩
      | succ j =>
        obtain ⟨row, h3, h4⟩ := cellAt_some.1 (h2 j x (by simpa using hx))
        exact cellAt_some.2 ⟨row, by simpa using h3, h4⟩

theorem prims_contract {P : Program} {num : Nat → Option FuncId} {fz : List (Nat × Obj)} (hp : PrimsOk P num fz) : ∀ k f args objs r outs, num k = some f → prim k args objs = some (r, outs) → Contract P num fz f args objs r outs := by
  intro k f args objs r outs hn h
  cases objs with
  | cons _ _ => cases h
  | nil =>
  replace h : primGo k args = some (r, outs) := h
  intro cx g w vs hP hnum hfz hw0 hbase hh0 hv0 hu m hsz hrel
  subst hP; subst hnum; subst hfz
  have hfi := m.fzIn
  have hbase0 : cx.base = 0 := hbase
  have one : ∀ (c : AV), args = [c] → ∃ v, vs = #[v] ∧ SRel cx.num w cx.R g (startHeap [] 0) 0 v c := fun c hc => by
    subst hc
    have : vs.size = 1 := hsz
    obtain ⟨v, rfl⟩ : ∃ v, vs = #[v] := ⟨vs[0], by apply Array.ext' ; match vs, this with | ⟨[x]⟩, _ => rfl⟩
    exact ⟨v, rfl, hrel 0 v c rfl rfl⟩
  have two : ∀ (c d : AV), args = [c, d] → ∃ v u, vs = #[v, u] ∧ SRel cx.num w cx.R g (startHeap [] 0) 0 v c ∧ SRel cx.num w cx.R g (startHeap [] 0) 0 u d := fun c d hc => by
    subst hc
    have : vs.size = 2 := hsz
    obtain ⟨v, u, rfl⟩ : ∃ v u, vs = #[v, u] := by match vs, this with | ⟨[x, y]⟩, _ => exact ⟨x, y, rfl⟩
    exact ⟨v, u, rfl, hrel 0 v c rfl rfl, hrel 1 u d rfl rfl⟩
  unfold primGo at h
  split at h
  · subst k
    split at h
    case h_2 => cases h
    rename_i s p
    split at h
    case isFalse => cases h
    rename_i hs
    obtain ⟨rfl, rfl⟩ := Prod.mk.inj (Option.some.inj h)
    obtain ⟨v, u, rfl, r1, r2⟩ := two _ _ rfl
    cases r1; cases r2
    refine (hp.sfx f hn s p w hfi hs).callable fun v w' hb hv => ?_
    subst hv
    exact post_plain m hw0 hbase0 hb (.bool _ _ fun _ h => h) rfl
  split at h
  · subst k
    split at h
    case h_2 => cases h
    rename_i s sep
    split at h
    case isFalse => cases h
    rename_i hs
    obtain ⟨rfl, rfl⟩ := Prod.mk.inj (Option.some.inj h)
    obtain ⟨v, u, rfl, r1, r2⟩ := two _ _ rfl
    cases r1; cases r2
    refine (hp.spl f hn s sep w hfi hs.1 hs.2).callable fun v w' hb hv => ?_
    obtain ⟨rfl, t, ht⟩ := hv
    have hlen : (splitT s sep).length = Lib.countB s sep + 1 := Lib.splitB_all sep hs.2 0 _ s rfl
    have hle := Lib.countB_le sep hs.2 s.size s (Nat.le_refl _)
    exact post_texts m hw0 hbase0 hb (by rw [hlen]; unfold maxLen; omega) ht
  split at h
  · subst k
    split at h
    case h_2 => cases h
    rename_i rows sep
    split at h
    case h_2 => cases h
    rename_i xs hx
    split at h
    case isFalse => cases h
    rename_i hs
    obtain ⟨rfl, rfl⟩ := Prod.mk.inj (Option.some.inj h)
    obtain ⟨v, u, rfl, r1, r2⟩ := two _ _ rfl
    obtain ⟨hl, hc⟩ := textsOf_cells hx
    cases r2
    cases r1 with
    | sl _ _ _ _ h1 hm _ _ =>
      have hB := hm rfl
      cases hB with
      | nil _ _ a cap =>
        have : xs = [] := by simpa using hl
        subst this
        refine (hp.joi f hn a cap [] sep w hfi (.inl rfl) hs.1 hs.2).callable fun v w' hb hv => ?_
        subst hv
        exact post_plain m hw0 hbase0 hb (.str _ _ fun _ h => h) rfl
      | sl _ _ _ b o cap us hcap hb' hrow hcell hin =>
        rw [← hl]
        refine (hp.joi f hn (some ⟨b, o, none⟩) cap xs sep w hfi (.inr ⟨b, o, rfl, ?_, by omega, fun j x hj => ?_⟩) hs.1 hs.2).callable fun v w' hb hv => ?_
        · have h3 := m.R_old b hb'
          rw [hw0] at h3
          exact h3.1
        · have h3 := hc j x hj
          have h4 := hcell j 0 _ h3
          have h5 := hin j 0 _ h3
          rw [Nat.mul_one, Nat.add_zero] at h4
          rw [h4]
          generalize us j 0 = uv at h5
          cases h5
          rfl
        · subst hv
          exact post_plain m hw0 hbase0 hb (.str _ _ fun _ h => h) rfl
  split at h
  · subst k
    split at h
    case h_2 => cases h
    rename_i n
    split at h
    case isFalse => cases h
    rename_i hs
    obtain ⟨rfl, rfl⟩ := Prod.mk.inj (Option.some.inj h)
    obtain ⟨v, rfl, r1⟩ := one _ rfl
    cases r1
    refine (hp.ito f hn n w hfi hs.1 hs.2).callable fun v w' hb hv => ?_
    subst hv
    exact post_plain m hw0 hbase0 hb (.str _ _ fun _ h => h) rfl
  split at h
  · subst k
    split at h
    case h_2 => cases h
    rename_i s
    split at h
    case isFalse => cases h
    rename_i hs
    obtain ⟨rfl, rfl⟩ := Prod.mk.inj (Option.some.inj h)
    obtain ⟨v, rfl, r1⟩ := one _ rfl
    cases r1
    refine (hp.ato f hn s w hfi hs).callable fun v w' hb hv => ?_
    subst hv
    exact post_plain m hw0 hbase0 hb (.int _ _ _ fun _ h => h) rfl
  · cases h

theorem srtAll_of {P : Program} {num : Nat → Option FuncId} (h : ∀ e ∈ sortTab, ∀ f t fs, num e.1 = some f → num (1000 + e.1) = some t → num kSort = some fs → SortOk P fs f t e.2.1 e.2.2.1 e.2.2.2) : SrtAll P num :=
  fun kl o c sz hm f t fs h1 h2 h3 => h (kl, o, c, sz) (by simpa using hm) f t fs h1 h2 h3
end Go.Proofs.YtpiljklnekefoaaGreatDoor
