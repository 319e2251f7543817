/- At a loop's head the numbers are given anew. -/
import Derived.Test.YtfebkfeobdffjaaReg
namespace Go.Proofs.Ytfebkfeobdffjaa
open Go Go.RowKit
set_option linter.unusedSimpArgs false

theorem addNew_spec : ∀ (is L : List Nat), L.Nodup → (addNew L is).Nodup ∧ ∃ r, addNew L is = L ++ r
  | [], L, h => ⟨h, [], by simp [addNew]⟩
  | i :: is, L, h => by
    by_cases hm : i ∈ L
    · have he : addNew L (i :: is) = addNew L is := by simp [addNew, List.foldl_cons, hm]
      rw [he]
      exact addNew_spec is L h
    · have h2 : (L ++ [i]).Nodup := List.nodup_append.2 ⟨h, by simp, fun a ha b hb => by simp at hb; subst hb; exact fun e => hm (e ▸ ha)⟩
      obtain ⟨h3, r, h4⟩ := addNew_spec is (L ++ [i]) h2
      have he : addNew L (i :: is) = addNew (L ++ [i]) is := by simp [addNew, List.foldl_cons, hm]
      rw [he]
      exact ⟨h3, i :: r, by rw [h4]; simp⟩

theorem idsOfSlots_spec (g : Nat → AV) : ∀ (ts L : List Nat), L.Nodup → (idsOfSlots g ts L).Nodup ∧ ∃ r, idsOfSlots g ts L = L ++ r
  | [], L, h => ⟨h, [], by simp [idsOfSlots]⟩
  | t :: ts, L, h => by
    obtain ⟨h1, r1, e1⟩ := addNew_spec (g t).ids L h
    obtain ⟨h2, r2, e2⟩ := idsOfSlots_spec g ts _ h1
    exact ⟨h2, r1 ++ r2, by simp only [idsOfSlots]; rw [e2, e1]; simp⟩

theorem idsOfBoxes_spec (hp : Nat → Option AO) : ∀ (is L : List Nat), L.Nodup → (idsOfBoxes hp is L).Nodup ∧ ∃ r, idsOfBoxes hp is L = L ++ r
  | [], L, h => ⟨h, [], by simp [idsOfBoxes]⟩
  | i :: is, L, h => by
    have other : idsOfBoxes hp (i :: is) L = idsOfBoxes hp is L → (idsOfBoxes hp (i :: is) L).Nodup ∧ ∃ r, idsOfBoxes hp (i :: is) L = L ++ r := fun e => by rw [e]; exact idsOfBoxes_spec hp is L h
    cases ho : hp i with
    | none => exact other (by simp [idsOfBoxes, ho])
    | some o =>
      cases o with
      | box cells =>
        obtain ⟨h1, r1, e1⟩ := addNew_spec (cells.flatMap AV.id?) L h
        obtain ⟨h2, r2, e2⟩ := idsOfBoxes_spec hp is _ h1
        have e : idsOfBoxes hp (i :: is) L = idsOfBoxes hp is (addNew L (cells.flatMap AV.id?)) := by simp [idsOfBoxes, ho]
        rw [e]
        exact ⟨h2, r1 ++ r2, by rw [e2, e1]; simp⟩
      | arr sz xs => exact other (by simp [idsOfBoxes, ho])
      | map kb kvs => exact other (by simp [idsOfBoxes, ho])

theorem rnHeap_get (h : Nat → Option AO) (L : List Nat) : ∀ (is : List Nat) (n k : Nat), rnHeap h L is n k = if n ≤ k then (is[k - n]?).bind fun i => (h i).map (rnO L) else none
  | [], n, k => by simp [rnHeap]
  | i :: is, n, k => by
    simp only [rnHeap, upd]
    by_cases hk : k = n
    · subst hk; simp
    · rw [if_neg hk, rnHeap_get h L is (n + 1) k]
      by_cases h2 : n ≤ k
      · rw [if_pos (by omega), if_pos h2, show k - n = (k - (n + 1)) + 1 by omega]; simp
      · rw [if_neg (by omega), if_neg h2]

theorem rnSlots_get (g : Nat → AV) (L : List Nat) : ∀ (ts : List Nat) (k : Nat), rnSlots g L ts k = if k ∈ ts then rnV L (g k) else .any
  | [], k => by simp [rnSlots]
  | t :: ts, k => by
    simp only [rnSlots, upd, List.mem_cons]
    by_cases hk : k = t
    · subst hk; simp
    · rw [if_neg hk, rnSlots_get g L ts k]; simp [hk]

theorem keepSlots_get (g : Nat → AV) : ∀ (ts : List Nat) (k : Nat), keepSlots g ts k = if k ∈ ts then g k else .any
  | [], k => by simp [keepSlots]
  | t :: ts, k => by
    simp only [keepSlots, upd, List.mem_cons]
    by_cases hk : k = t
    · subst hk; simp
    · rw [if_neg hk, keepSlots_get g ts k]; simp [hk]

def normGh (g : Gh) (L : List Nat) : Gh := ⟨fun i => g.v (L.getD i 0), fun i => g.fp (L.getD i 0), g.I, g.N, fun i => i < L.length⟩

theorem idx_spec {L : List Nat} {id : Nat} (h : L.contains id = true) : L.idxOf id < L.length ∧ L[L.idxOf id]? = some id ∧ L.getD (L.idxOf id) 0 = id := by
  have hm : id ∈ L := by simpa using h
  have hlt : L.idxOf id < L.length := List.idxOf_lt_length_iff.2 hm
  have hg : L[L.idxOf id]? = some id := by rw [List.getElem?_eq_getElem hlt, List.getElem_idxOf hlt]
  exact ⟨hlt, hg, by simp [List.getD, hg]⟩

section
variable {num : Nat → Option FuncId} {w : World} {R : Nat → Prop} {g : Gh} {h : Nat → Option AO} {ep : Nat} {L : List Nat}

def AV.flat : AV → Bool
  | .agg _ => false
  | .tup _ => false
  | _ => true

theorem rnO_alike (o : AO) : o.alike (rnO L o) := by cases o <;> simp [rnO, AO.alike]

theorem rn1_rel {u : Value} {c : AV} (hr : SRel num w R g h ep u c) (hf : c.flat = true) : SRel num w R (normGh g L) (rnHeap h L L 0) 0 u (rn1 L c) := by
  have look : ∀ id, L.contains id = true → ∀ o', rnHeap h L L 0 (L.idxOf id) = some o' → ∃ o, h id = some o ∧ o' = rnO L o ∧ (normGh g L).v (L.idxOf id) = g.v id := by
    intro id hc o' ho
    obtain ⟨_, h2, h3⟩ := idx_spec hc
    rw [rnHeap_get, if_pos (Nat.zero_le _), Nat.sub_zero, h2, Option.bind_some] at ho
    cases hh : h id with
    | none => rw [hh] at ho; cases ho
    | some o => rw [hh] at ho; exact ⟨o, rfl, (Option.some.inj ho).symm, by simp only [normGh, h3]⟩
  cases hr with
  | any v => exact .any _
  | bool b => exact .bool _
  | int k n => exact .int _ _
  | str s => exact .str _
  | nil sz => exact .nil _
  | sl v m sz xs h1 hm hlim hown =>
    cases m with
    | own => exact absurd rfl hown
    | imm => exact .sl _ _ _ _ h1 (fun _ => hm rfl) (fun e he => by cases he) (by simp)
    | bor => exact .sl _ _ _ _ h1 (fun _ => hm rfl) (fun e he => by cases he) (by simp)
    | snap e => exact .any _
  | ref id v h1 hu hv =>
    simp only [rn1]
    split
    · rename_i hc
      refine .ref _ _ h1 (idx_spec hc).1 (fun o' ho => ?_)
      obtain ⟨o, h2, _, h3⟩ := look id hc o' ho
      rw [h3]; exact hv o h2
    · exact .any _
  | view id lo len v h1 hu hv =>
    simp only [rn1]
    split
    · rename_i hc
      refine .view _ _ _ _ h1 (idx_spec hc).1 (fun sz xs ho => ?_)
      obtain ⟨o, h2, h4, h3⟩ := look id hc _ ho
      rw [h3]
      cases o <;> simp only [rnO, reduceCtorEq] at h4
      cases h4
      exact hv _ _ h2
    · exact .any _
  | ptr id i off v h1 hu hv =>
    simp only [rn1]
    split
    · rename_i hc
      refine .ptr _ _ _ _ h1 (idx_spec hc).1 (fun o' ho => ?_)
      obtain ⟨o, h2, h4, h3⟩ := look id hc _ ho
      rw [h3]
      have hp := hv o h2
      subst h4
      cases o <;> exact hp
    · exact .any _
  | bptr m row off v h1 hlim hm =>
    cases m with
    | own => exact .bptr _ _ _ _ h1 (fun e he => by cases he) (fun hok => by simp [Md.ok] at hok)
    | imm => exact .bptr _ _ _ _ h1 (fun e he => by cases he) (fun _ => hm rfl)
    | bor => exact .bptr _ _ _ _ h1 (fun e he => by cases he) (fun _ => hm rfl)
    | snap e => exact .any _
  | mapr id v h1 hu hv =>
    simp only [rn1]
    split
    · rename_i hc
      refine .mapr _ _ h1 (idx_spec hc).1 (fun o' ho => ?_)
      obtain ⟨o, h2, _, h3⟩ := look id hc o' ho
      rw [h3]; exact hv o h2
    · exact .any _
  | fn k f hk => exact .fn k f hk
  | inn e id i off v h1 hu hle hv => exact .any _
  | agg vs cs hl h1 hc => simp [AV.flat] at hf
  | tup vs cs hl hc => simp [AV.flat] at hf

theorem SRel.flat_of {u : Value} {c : AV} (hr : SRel num w R g h ep u c) (h1 : u.oneCell' = true) : c.flat = true := by
  cases hr with
  | agg => simp [Value.oneCell'] at h1
  | tup => simp [Value.oneCell'] at h1
  | _ => rfl

theorem rnV_rel {u : Value} {c : AV} (hr : SRel num w R g h ep u c) : SRel num w R (normGh g L) (rnHeap h L L 0) 0 u (rnV L c) := by
  by_cases hf : c.flat = true
  · have e : rnV L c = rn1 L c := by cases c <;> first | rfl | simp [AV.flat] at hf
    rw [e]
    exact rn1_rel hr hf
  · cases hr with
    | agg vs cs hl h1 hc =>
      refine .agg _ _ (by simpa using hl) h1 (fun i v d hv hd => ?_)
      rw [List.getElem?_map] at hd
      cases hci : cs[i]? with
      | none => rw [hci] at hd; cases hd
      | some c0 =>
        rw [hci] at hd
        simp only [Option.map_some, Option.some.injEq] at hd
        subst hd
        have h2 := hc i v c0 hv hci
        exact rn1_rel h2 (h2.flat_of (h1 i v hv))
    | tup vs cs hl hc =>
      simp only [rnV]
      split
      · rename_i he
        have hcs : cs = [] := by simpa using he
        subst hcs
        have hvs : vs = #[] := by
          have : vs.size = 0 := by simpa using hl
          exact Array.eq_empty_of_size_eq_zero this
        subst hvs
        exact .tup #[] [] rfl (fun i v c hv => by simp at hv)
      · exact .any _
    | _ => simp [AV.flat] at hf
end

section
variable {cx : Cx} {nt : Nat}

theorem norm_mem {h : Nat → Option AO} {ep : Nat} {g : Gh} {w : World} {L : List Nat} (m : Mem cx h ep g w) (hnd : L.Nodup) (hpre : ∃ r, L = List.range cx.base ++ r) : Mem cx (rnHeap h L L 0) 0 (normGh g L) w := by
  have look : ∀ k o', rnHeap h L L 0 k = some o' → ∃ i o, L[k]? = some i ∧ L.getD k 0 = i ∧ h i = some o ∧ o' = rnO L o := by
    intro k o' ho
    rw [rnHeap_get, if_pos (Nat.zero_le _), Nat.sub_zero] at ho
    cases hk : L[k]? with
    | none => rw [hk] at ho; cases ho
    | some i =>
      rw [hk, Option.bind_some] at ho
      cases hh : h i with
      | none => rw [hh] at ho; cases ho
      | some o => rw [hh] at ho; exact ⟨i, o, rfl, by simp [List.getD, hk], hh, (Option.some.inj ho).symm⟩
  obtain ⟨r, hr⟩ := hpre
  have hbase : ∀ k, k < cx.base → L[k]? = some k ∧ L.getD k 0 = k ∧ k < L.length := fun k hk => by
    have h1 : L[k]? = some k := by rw [hr, List.getElem?_append_left (by simpa using hk)]; simp [hk]
    exact ⟨h1, by simp [List.getD, h1], (List.getElem?_eq_some_iff.1 h1).1⟩
  refine ⟨?_, ?_, ?_, ?_, m.I_lt, m.I_up, m.I_new, m.I_N, m.N_up, m.N_new, fun k hk => (hbase k hk).2.2, ?_, m.N_lt, m.R_old, m.I_old, m.frame⟩
  · intro k o' ho
    obtain ⟨i, o, h1, h2, h3, rfl⟩ := look k o' ho
    have hm := m.objs i o h3
    simp only [normGh, h2]
    cases o with
    | arr sz xs => exact hm
    | box cells =>
      obtain ⟨b, cur, e, h4, h5, h6, h7, h8, h9⟩ := hm
      refine ⟨b, cur, e, h4, h5, by simpa using h6, h7, h8, fun j u c hu hc => ?_⟩
      rw [List.getElem?_map] at hc
      cases hcj : cells[j]? with
      | none => rw [hcj] at hc; cases hc
      | some c0 =>
        rw [hcj] at hc
        simp only [Option.map_some, Option.some.injEq] at hc
        subst hc
        obtain ⟨h10, h11⟩ := h9 j u c0 hu hcj
        exact ⟨h10, rn1_rel h11 (h11.flat_of h10)⟩
    | map kb kvs =>
      obtain ⟨b, es, cl, h4, h5, h6, h7, h8, h9⟩ := hm
      refine ⟨b, es, cl, h4, h5, h6, h7, h8, fun j e k c he hc => ?_⟩
      obtain ⟨h10, h13, h11, h12⟩ := h9 j e k c he hc
      refine ⟨h10, h13, h11, ?_⟩
      generalize e.val = u at h12
      cases h12 with
      | bool => exact .bool _
      | int => exact .int _ _
      | str => exact .str _
      | _ => simp [AV.plain] at h11
  · intro k o' ho
    obtain ⟨i, o, h1, _⟩ := look k o' ho
    exact (List.getElem?_eq_some_iff.1 h1).1
  · intro k k' o o' b ho ho' hf hf'
    obtain ⟨i, o1, h1, h2, h3, _⟩ := look k o ho
    obtain ⟨i', o1', h1', h2', h3', _⟩ := look k' o' ho'
    simp only [normGh, h2, h2'] at hf hf'
    have := m.disj i i' o1 o1' b h3 h3' hf hf'
    subst this
    exact nodup_idx hnd h1 h1'
  · intro k o b ho hf
    obtain ⟨i, o1, h1, h2, h3, _⟩ := look k o ho
    simp only [normGh, h2] at hf
    exact m.mine i o1 b h3 hf
  · intro k o' hk ho
    obtain ⟨i, o, h1, h2, h3, rfl⟩ := look k o' ho
    obtain ⟨h4, h5, _⟩ := hbase k hk
    rw [h4] at h1
    obtain rfl := Option.some.inj h1
    obtain ⟨o0, h6, h7, h8⟩ := m.given k o hk h3
    exact ⟨o0, h6, h7.trans (rnO_alike o), by simp only [normGh, h5]; exact h8⟩

theorem norm_corr {s : St} {g : Gh} {a : Act} {w : World} (c : Corr cx nt s g a w) (hb : s.base = cx.base) (keep : List Nat) :
    ∃ g', Corr cx nt (s.norm keep) g' a w ∧ (∀ id, g'.used id → id < (s.norm keep).next) ∧ (s.norm keep).base = cx.base := by
  obtain ⟨h1, r1, e1⟩ := idsOfSlots_spec s.slots keep (List.range s.base) List.nodup_range
  obtain ⟨h2, r2, e2⟩ := idsOfBoxes_spec s.heap (idsOfSlots s.slots keep (List.range s.base)) _ h1
  generalize hL : idsOfBoxes s.heap (idsOfSlots s.slots keep (List.range s.base)) (idsOfSlots s.slots keep (List.range s.base)) = L at h2 e2
  have hn : s.norm keep = ⟨rnSlots s.slots L keep, rnHeap s.heap L L 0, 0, L.length, s.base⟩ := by simp only [St.norm, hL]
  refine ⟨normGh g L, ?_, ?_, by rw [hn]; exact hb⟩
  · rw [hn]
    refine ⟨c.size, c.defers, fun t => ?_, norm_mem c.mem h2 ⟨r1 ++ r2, by rw [e2, e1, hb]; simp⟩⟩
    simp only [rnSlots_get]
    split
    · exact rnV_rel (c.slots t)
    · exact .any _
  · rw [hn]
    exact fun id hid => hid

theorem forget_corr {s : St} {g : Gh} {a : Act} {w : World} (c : Corr cx nt s g a w) (keep : List Nat) (n : Nat) : Corr cx nt (s.forget keep n) g a w := by
  refine ⟨c.size, c.defers, fun t => ?_, c.mem⟩
  simp only [St.forget, keepSlots_get]
  split
  · exact c.slots t
  · exact .any _

/-- A draw leaves all as it was. -/
theorem drawn_corr {s : St} {g : Gh} {a : Act} {w : World} (c : Corr cx nt s g a w) : Corr cx nt s g a { w with drawn := w.drawn + 1 } := by
  have t : Touch cx (fun _ => False) s.heap s.ep g w s.heap s.ep g { w with drawn := w.drawn + 1 } :=
    ⟨rfl, rfl, rfl, Nat.le_refl _, Nat.le_refl _, fun _ _ => ⟨rfl, fun _ => ⟨rfl, rfl⟩⟩, fun _ _ _ => rfl, fun _ h => h, fun _ _ h => h.elim, fun _ _ h => h.elim, fun _ _ _ h => h.elim, fun _ _ _ _ _ h => h.elim, fun _ h => h, fun _ h => .inl h, c.mem.I_N, fun _ h => h, fun _ h => .inl h, fun _ _ _ => rfl⟩
  exact ⟨c.size, c.defers, fun k => (c.slots k).mono (t.keeps c.mem), t.mem c.mem (fun _ _ h => h.elim)⟩
end
end Go.Proofs.Ytfebkfeobdffjaa
