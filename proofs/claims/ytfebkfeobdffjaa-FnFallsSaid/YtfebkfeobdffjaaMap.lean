/- Each operation of the model does what the abstract machine's does: maps with texts as keys. -/
import Derived.Test.YtfebkfeobdffjaaBsl
import Derived.MapKept
namespace Go.Proofs.Ytfebkfeobdffjaa
open Go Go.RowKit
set_option linter.unusedSimpArgs false

theorem sEq_iff (x y : ByteArray) : sEq x y = true ↔ x = y := by
  unfold sEq
  rw [beq_iff_eq]
  constructor
  · intro h
    have h2 : x.data.toList = y.data.toList := by simpa [ByteArray.toList_eq] using h
    cases x; cases y
    simp at h2
    rw [h2]
  · rintro rfl; rfl

/-- The keys' type. -/
def keyD (kb : Bool) : TypeDesc := if kb then .bool else .string

theorem keyV_isKey (kb : Bool) (s : ByteArray) : MapKept.IsKey (keyD kb) (keyV kb s) := by cases kb <;> trivial

theorem keyOf_is {kb : Bool} {num : Nat → Option FuncId} {w : World} {R : Nat → Prop} {g : Gh} {h : Nat → Option AO} {ep : Nat} {v : Value} {c : AV} {s : ByteArray} (hr : SRel num w R g h ep v c) (hk : keyOf kb c = some s) : v = keyV kb s ∧ keyIs kb s := by
  cases kb with
  | false =>
    cases hr <;> simp only [keyOf, reduceCtorEq, Option.some.injEq] at hk
    subst hk
    exact ⟨rfl, fun h => by cases h⟩
  | true =>
    cases hr <;> simp only [keyOf, reduceCtorEq, Option.some.injEq] at hk
    rename_i b
    subst hk
    refine ⟨?_, fun _ => by cases b <;> simp⟩
    cases b
    · have : sEq (bkey false) (bkey true) = false := by
        rw [← Bool.not_eq_true, sEq_iff]
        intro e
        have := congrArg (fun x => x.data.toList) e
        simp [bkey] at this
      simp [keyV, this]
    · have : sEq (bkey true) (bkey true) = true := (sEq_iff _ _).2 rfl
      simp [keyV, this]

theorem sameNow_key (kb : Bool) {s k : ByteArray} (hs : keyIs kb s) (hk : keyIs kb k) : Instr.sameNow (keyD kb) (keyV kb s) (keyV kb k) = some (sEq s k) := by
  cases kb with
  | false =>
    simp only [keyD, keyV, Instr.sameNow, Bool.false_eq_true, if_false]
    congr 1
    rw [Bool.eq_iff_iff, sEq_iff, MapKept.bytes_beq]
  | true =>
    have e1 : sEq (bkey false) (bkey true) = false := by
      rw [← Bool.not_eq_true, sEq_iff]
      intro e
      have := congrArg (fun x => x.data.toList) e
      simp [bkey] at this
    have e2 : sEq (bkey true) (bkey false) = false := by
      rw [← Bool.not_eq_true, sEq_iff]
      intro e
      have := congrArg (fun x => x.data.toList) e
      simp [bkey] at this
    have e3 : ∀ b, sEq (bkey b) (bkey b) = true := fun b => (sEq_iff _ _).2 rfl
    rcases hs rfl with rfl | rfl <;> rcases hk rfl with rfl | rfl <;> simp [keyD, keyV, Instr.sameNow, e1, e2, e3]

theorem find_map (kb : Bool) (s : ByteArray) (hks : keyIs kb s) : ∀ (es : List MapEntry) (kvs : List (ByteArray × AV)) (i0 : Nat), es.length = kvs.length → (∀ (i : Nat) (m : MapEntry) (k : ByteArray) (c : AV), es[i]? = some m → kvs[i]? = some (k, c) → m.key = keyV kb k ∧ keyIs kb k) →
    (Instr.findNow (keyD kb) (keyV kb s) es i0 = some none ∧ mapGet s kvs = none ∧ ∀ v, mapPut s v kvs = kvs ++ [(s, v)]) ∨
    ∃ j m c, Instr.findNow (keyD kb) (keyV kb s) es i0 = some (some (i0 + j, m.val)) ∧ es[j]? = some m ∧ m.key = keyV kb s ∧ kvs[j]? = some (s, c) ∧ mapGet s kvs = some c ∧ ∀ v, mapPut s v kvs = kvs.set j (s, v)
  | [], [], i0, _, _ => .inl ⟨rfl, rfl, fun _ => rfl⟩
  | e :: es, (k, c) :: kvs, i0, hl, hk => by
    obtain ⟨hk0, hk1⟩ := hk 0 e k c rfl rfl
    simp only [Instr.findNow, hk0, sameNow_key kb hks hk1, mapGet, mapPut]
    cases hs : sEq s k with
    | true =>
      have := (sEq_iff _ _).1 hs
      subst this
      exact .inr ⟨0, e, c, rfl, rfl, hk0, rfl, by simp, fun v => by simp⟩
    | false =>
      rcases find_map kb s hks es kvs (i0 + 1) (by simpa using hl) (fun i m k c h1 h2 => hk (i + 1) m k c (by simpa using h1) (by simpa using h2)) with ⟨h1, h2, h3⟩ | ⟨j, m, d, h1, h2, h3, h4, h5, h6⟩
      · exact .inl ⟨h1, by simpa using h2, fun v => by simp [h3]⟩
      · exact .inr ⟨j + 1, m, d, by simp only [h1]; congr 3; omega, by simpa using h2, h3, by simpa using h4, by simpa using h5, fun v => by simp [h6]⟩

section
variable {cx : Cx} {s : St} {g : Gh} {a : Act} {w : World} {o : Oper} {key : Nat} {out : Out} {cl : Callee}

theorem done_mkmap {kb : Bool} (m : Mem cx s.heap s.ep g w) (hk : ¬ g.used key) {t : TypeId} (ho : o.op = .makeMap t none) (h : sem cl (.mkmap kb) key s.slots s.heap s.ep = some out) : Done cx s g a w o key out := by
  simp only [sem, Option.some.injEq] at h
  subst h
  have hh : wsOn s.heap [(key, some (.map kb []))] = fun id => if id ∈ ([] : List Nat) then none else if id = key then some (.map kb []) else s.heap id := by
    funext id; simp [wsOn, upd]
  have p := Pushed.alloc w (.map #[] 0)
  have hrun : (execOp a.eval o).run cx.P w = .ok (.value (.map (some w.heap.size))) (w.alloc (.map #[] 0)) := by simp [execOp, ho, Instr.makeMap]
  generalize w.alloc (.map #[] 0) = w1 at p hrun
  have t' := touch_new (ep' := s.ep) m hk (is := []) (by simp) (o := .map kb []) (v := .map (some w.heap.size)) (F := fun b => b = w.heap.size) (arr := false) p (Nat.le_refl _) (fun b hb => .inl hb)
  have k := t'.keeps m
  refine ⟨_, _, w1, newGh g w key (.map (some w.heap.size)) (fun b => b = w.heap.size) false, hrun, .inl rfl, ?_, ?_, ?_, ?_⟩
  · simp only [hh]; exact k
  · simp only [hh]
    refine t'.mem m (fun id o' hT ho => ?_)
    have he : id = key := by simpa using hT
    subst he
    simp at ho
    subst ho
    simp only [newGh, upd, if_true]
    refine ⟨w.heap.size, #[], 0, rfl, p.new, fun x => Iff.rfl, ?_, rfl, fun i m k c hm => by simp at hm⟩
    rintro (hN | ⟨h0, _⟩)
    · have := m.N_lt _ hN; omega
    · cases h0
  · simp only [hh]
    exact .mapr _ _ rfl (.inr rfl) (fun o' _ => by simp [newGh, upd])
  · intro id hu
    rcases hu with hu | rfl
    · exact .inl hu
    · exact .inr ⟨Nat.le_refl _, by omega⟩

theorem done_lookup {kb : Bool} (m : Mem cx s.heap s.ep g w) {x1 x2 : Operand} {t kt et : TypeId} {i0 : TypeInfo} {z0 : Value} {z : AV} {y1 y2 : Opd} (ho : o.op = .lookup t x1 x2 false) (ht : cx.P.underlying t = some (.map kt et)) (hkt : cx.P.underlying kt = some (keyD kb))
    (hi : cx.P.info? et = some i0) (hz : i0.zero = some z0) (hzr : zeroB z0 z = true) (h1 : SRel cx.num w cx.R g s.heap s.ep (a.eval x1) (y1.ev s.slots)) (h2 : SRel cx.num w cx.R g s.heap s.ep (a.eval x2) (y2.ev s.slots))
    (h : sem cl (.lookup kb z y1 y2) key s.slots s.heap s.ep = some out) : Done cx s g a w o key out := by
  simp only [sem] at h
  generalize y1.ev s.slots = c1 at h h1
  generalize y2.ev s.slots = c2 at h h2
  cases hko : keyOf kb c2 with
  | none => rw [hko] at h; cases c1 <;> cases h
  | some st =>
  rw [hko] at h
  generalize e1 : a.eval x1 = v1 at h1
  generalize e2 : a.eval x2 = v2 at h2
  cases c1 <;> try (cases h; done)
  rename_i id
  simp only at h
  cases hh : s.heap id with
  | none => rw [hh] at h; cases h
  | some ob =>
    rw [hh] at h
    cases ob <;> simp only [reduceCtorEq] at h
    rename_i kb0 kvs
    split at h
    case isFalse => cases h
    rename_i hkb
    subst hkb
    obtain ⟨hkv, hki⟩ := keyOf_is h2 hko
    cases h1 with
    | mapr _ _ _ hu hv =>
      have hv' := hv _ hh
      obtain ⟨b, es, cl0, hv2, hheap, hS, hN, hsz, hes⟩ := m.objs id _ hh
      have hv3 := hv'.trans hv2
      have hf := find_map kb0 st hki es.toList kvs 0 (by simpa using hsz) (fun i m k c hm hc => ⟨(hes i m k c (by simpa using hm) hc).1, (hes i m k c (by simpa using hm) hc).2.1⟩)
      have hck := MapKept.run_checkKey (P := cx.P) (w := w) hkt (keyV_isKey kb0 st) es.isEmpty 9999
      rcases hf with ⟨hf1, hf2, _⟩ | ⟨j, m0, c, hf1, hf2, _, hf3, hf4, _⟩
      · rw [hf2] at h
        refine done_val m ?_ (zeroB_rel hzr _ _ _ _ _ _).2 h
        have hfk := MapKept.run_findKey (P := cx.P) (w := w) hkt hf1
        simp [execOp, ho, e1, e2, hkv, hv3, Instr.lookup, run_underlying ht, MapKept.run_getObj_map hheap, hck, hfk, zeroValue, typeInfo, hi, hz]
      · rw [hf4] at h
        refine done_val m (v := m0.val) ?_ (hes j m0 st c (by simpa using hf2) hf3).2.2.2 h
        have hfk := MapKept.run_findKey (P := cx.P) (w := w) hkt hf1
        simp [execOp, ho, e1, e2, hkv, hv3, Instr.lookup, run_underlying ht, MapKept.run_getObj_map hheap, hck, hfk]

theorem done_mapset {kb : Bool} (m : Mem cx s.heap s.ep g w) {x1 x2 x3 : Operand} {t kt et : TypeId} {y1 y2 y3 : Opd} (ho : o.op = .mapUpdate t x1 x2 x3 ∨ o.op = .insert t x1 x2 x3) (ht : cx.P.underlying t = some (.map kt et)) (hkt : cx.P.underlying kt = some (keyD kb))
    (h1 : SRel cx.num w cx.R g s.heap s.ep (a.eval x1) (y1.ev s.slots)) (h2 : SRel cx.num w cx.R g s.heap s.ep (a.eval x2) (y2.ev s.slots)) (h3 : SRel cx.num w cx.R g s.heap s.ep (a.eval x3) (y3.ev s.slots))
    (h : sem cl (.mapset kb y1 y2 y3) key s.slots s.heap s.ep = some out) : Done cx s g a w o key out := by
  simp only [sem] at h
  generalize y1.ev s.slots = c1 at h h1
  generalize y2.ev s.slots = c2 at h h2
  cases hko : keyOf kb c2 with
  | none => rw [hko] at h; cases c1 <;> cases h
  | some st =>
  rw [hko] at h
  generalize y3.ev s.slots = c3 at h h3
  generalize e1 : a.eval x1 = v1 at h1
  generalize e2 : a.eval x2 = v2 at h2
  generalize e3 : a.eval x3 = v3 at h3
  cases c1 <;> try (cases h; done)
  rename_i id
  simp only at h
  cases hh : s.heap id with
  | none => rw [hh] at h; cases h
  | some ob =>
    rw [hh] at h
    cases ob <;> simp only [reduceCtorEq] at h
    rename_i kb0 kvs
    split at h
    case isFalse => cases h
    rename_i hpl
    obtain ⟨hkb, hpl⟩ := hpl
    subst hkb
    simp only [Option.some.injEq] at h
    obtain ⟨hkv, hki⟩ := keyOf_is h2 hko
    cases h1 with
    | mapr _ _ _ hu hv =>
      have hv' := hv _ hh
      obtain ⟨b, es, clk, hv2, hheap, hS, hN, hsz, hes⟩ := m.objs id _ hh
      have hv3 := hv'.trans hv2
      have hf := find_map kb0 st hki es.toList kvs 0 (by simpa using hsz) (fun i m k c hm hc => ⟨(hes i m k c (by simpa using hm) hc).1, (hes i m k c (by simpa using hm) hc).2.1⟩)
      have hck := MapKept.run_checkKey (P := cx.P) (w := w) hkt (keyV_isKey kb0 st) false 9999
      -- the new entries
      have hnew : ∃ es' clk', (execOp a.eval o).run cx.P w = .ok .skip { w with heap := w.heap.setIfInBounds b (.map es' clk') } ∧ es'.size = (mapPut st c3 kvs).length ∧
          ∀ (i : Nat) (m : MapEntry) (k : ByteArray) (c : AV), es'[i]? = some m → (mapPut st c3 kvs)[i]? = some (k, c) → m.key = keyV kb0 k ∧ keyIs kb0 k ∧ c.plain = true ∧ SRel cx.num w cx.R g s.heap s.ep m.val c := by
        rcases hf with ⟨hf1, hf2, hf3⟩ | ⟨j, m0, c, hf1, hf2, hmk, hf3, hf4, hf5⟩
        · have hfk := MapKept.run_findKey (P := cx.P) (w := w) hkt hf1
          refine ⟨es.push { key := keyV kb0 st, val := v3, born := clk }, clk + 1, ?_, ?_, ?_⟩
          · rcases ho with ho | ho <;> simp [execOp, ho, e1, e2, e3, hkv, hv3, Instr.mapUpdate, run_underlying ht, MapKept.run_getObj_map hheap, hck, hfk, MapKept.run_setObj_map _ hheap]
          · rw [hf3]; simp [hsz]
          · intro i m k c hm hc
            rw [hf3] at hc
            rw [Array.getElem?_push] at hm
            rw [List.getElem?_append] at hc
            by_cases hi : i = es.size
            · subst hi
              rw [if_pos rfl] at hm
              rw [if_neg (by omega), hsz, Nat.sub_self] at hc
              simp only [List.getElem?_cons_zero, Option.some.injEq, Prod.mk.injEq] at hm hc
              obtain ⟨rfl, rfl⟩ := hc
              subst hm
              exact ⟨rfl, hki, hpl, h3⟩
            · rw [if_neg hi] at hm
              have := (Array.getElem?_eq_some_iff.1 hm).1
              rw [if_pos (by omega)] at hc
              exact hes i m k c hm hc
        · have hfk := MapKept.run_findKey (P := cx.P) (w := w) hkt hf1
          have hj : es[j]? = some m0 := by simpa using hf2
          have hstay := MapKept.run_keyThatStays (P := cx.P) (w := w) (keyV_isKey kb0 st)
          refine ⟨es.modify j fun e => { e with key := keyV kb0 st, val := v3 }, clk, ?_, ?_, ?_⟩
          · rcases ho with ho | ho <;> simp [execOp, ho, e1, e2, e3, hkv, hv3, Instr.mapUpdate, run_underlying ht, MapKept.run_getObj_map hheap, hck, hfk, hj, hmk, hstay, MapKept.run_setObj_map _ hheap]
          · rw [hf5]; simp [hsz]
          · intro i m k c hm hc
            rw [hf5] at hc
            rw [Array.getElem?_modify] at hm
            rw [List.getElem?_set] at hc
            by_cases hi : j = i
            · subst hi
              have := (List.getElem?_eq_some_iff.1 hf3).1
              simp only [hj, if_true, Option.map_some, Option.some.injEq] at hm
              simp only [this, if_true, Option.some.injEq, Prod.mk.injEq] at hc
              obtain ⟨rfl, rfl⟩ := hc
              subst hm
              exact ⟨rfl, hki, hpl, h3⟩
            · rw [if_neg hi] at hm hc
              exact hes i m k c hm hc
      obtain ⟨es', clk', hrun, hsz', hes'⟩ := hnew
      have hset := MapKept.heap_set (o' := .map es' clk') hheap
      have hsize : (w.heap.setIfInBounds b (.map es' clk')).size = w.heap.size := by simp
      generalize hw1 : ({ w with heap := w.heap.setIfInBounds b (.map es' clk') } : World) = w1 at hrun
      have hw1h : w1.heap = w.heap.setIfInBounds b (.map es' clk') := by rw [← hw1]
      have hfr : w1.os = w.os ∧ w1.tape = w.tape ∧ w1.output = w.output := by rw [← hw1]; exact ⟨rfl, rfl, rfl⟩
      rw [← hw1h] at hset hsize
      have hSb : g.fp id b := (hS b).2 rfl
      subst h
      have t : Touch cx (fun j => j = id) s.heap s.ep g w (upd s.heap id (some (.map kb0 (mapPut st c3 kvs)))) s.ep g w1 := by
        refine ⟨hfr.1, hfr.2.1, hfr.2.2, by omega, Nat.le_refl _, ?_, ?_, fun _ h => h, ?_, ?_, ?_, ?_, fun _ h => h, fun _ h => .inl h, m.I_N, fun _ h => h, fun _ h => .inl h, ?_⟩
        · intro j hj
          exact ⟨by simp [upd, hj], fun _ => ⟨rfl, rfl⟩⟩
        · intro k hk hO
          exact hset.2 k (fun e => hO ⟨id, _, rfl, hh, e ▸ hSb⟩)
        · intro j o' hj _
          rw [hj]; exact m.used id _ hh
        · intro j o' hj _ ho'
          rw [hj] at ho' ⊢
          simp only [upd, if_true, Option.some.injEq] at ho'
          subst ho'
          exact ⟨_, hh, rfl, rfl⟩
        · intro j o' k hj _ hf
          rw [hj] at hf
          exact ⟨.inr ⟨id, _, rfl, hh, hf⟩, (m.mine id _ k hh hf).2⟩
        · intro j j' _ _ k hj hj' _ _ _ _
          exact hj.trans hj'.symm
        · intro _ k hk
          exact hset.2 k (fun e => hN (e ▸ hk))
      have k := t.keeps m
      refine ⟨.skip, undef, w1, g, hrun, .inr ⟨rfl, rfl⟩, k, t.mem m (fun j o' hj ho' => ?_), .any _, fun _ h => .inl h⟩
      rw [hj] at ho' ⊢
      simp only [upd, if_true, Option.some.injEq] at ho'
      subst ho'
      exact ⟨b, es', clk', hv2, hset.1, hS, hN, hsz', fun i m k' c hm hc => ⟨(hes' i m k' c hm hc).1, (hes' i m k' c hm hc).2.1, (hes' i m k' c hm hc).2.2.1, (hes' i m k' c hm hc).2.2.2.mono k⟩⟩
end
end Go.Proofs.Ytfebkfeobdffjaa
