/- The laws' own helpers, on books. -/
import Derived.Test.YtojihfiloldkgaaE2
import Derived.Test.YtojihfiloldkgaaE6
import Derived.Test.YtojihfiloldkgaaA6
namespace Go.Proofs.Ytojihfiloldkgaa
open Go
set_option linter.unusedSimpArgs false
set_option maxRecDepth 100000

def szGrant (a : Grant) (l : Int) : Int := offs l [a.hold.size, a.berth.size, a.copy.size]
def szGrantGo : List Grant → Int → Int
  | [], l => l
  | w :: r, l => if szGrant w l < 0 then -1 else szGrantGo r (szGrant w l)
def szGrants (ws : List Grant) (l : Int) : Int := if off l ws.length < 0 then -1 else szGrantGo ws (off l ws.length)

theorem law150 (w : Grant) : F 150 [.agg w.c, .agg w.c] [] = some (.bool true, []) := by
  refine F_run fn150 rfl ?_
  simp [c150]

def headToGrant (ws : List Grant) (i : Nat) : St := hd [(0, .sl .bor 5 (ws.map Grant.c)), (3, .ref 0), (4, .int .i64 i)] [.arr 5 (fillU Grant.c [.str ⟨#[]⟩, .str ⟨#[]⟩, .str ⟨#[]⟩, .int .i64 0, .int .i64 0] ws i)] 0

def headSzGrant (ws : List Grant) (l : Int) (i : Nat) : St := hd [(0, .sl .bor 5 (ws.map Grant.c)), (1, .int .i64 l), (5, .int .i64 i)] [] 0

def headEqGrant (ws : List Grant) (i : Nat) : St := hd [(0, .sl .bor 5 (ws.map Grant.c)), (1, .sl .bor 5 (ws.map Grant.c)), (5, .int .i64 i)] [] 0

theorem law108 (ws : List Grant) (hl : ws.length < big) : F 108 [.sl .bor 5 (ws.map Grant.c), .sl .bor 5 (ws.map Grant.c)] [] = some (.bool true, []) := by
  refine F_run fn108 rfl ?_
  have hm : ws.length ≤ 9223372036854775807 := by unfold big at hl; omega
  simp [c108]
  refine (loop_list ws (fun i (_ : Unit) => headEqGrant ws i) (fun _ _ => True) (fun _ r l => (.bool true, [])) (fun acc Y _ => ?_) (fun i a r acc Y ha hi hr _ hY => ?_) () ?_ trivial ?_).trans rfl
  · simp [headEqGrant, c108b0]
  · have hw : IntKind.i64.wrap ((i : Int) + 1) = (i : Int) + 1 := i64w (by omega) (by omega)
    obtain ⟨_, hg⟩ := List.getElem?_eq_some_iff.1 ha
    have h1 := law150 a
    simp only [Grant.c] at h1
    simp [headEqGrant, c108b0, hi, hg, h1]
    rw [hY () _ trivial]
    simp [headEqGrant, hw]
  · simp [headEqGrant]
  · exact hl


theorem szGrant_le {w : Grant} {l : Int} (hw : w.wf) (h0 : 0 ≤ l) (hx : l ≤ 1048576) (h : 0 ≤ szGrant w l) : szGrant w l ≤ l := by
  unfold szGrant offs offs offs offs at *
  split at h
  · simp at h
  · rename_i h1
    have k1 := off_le h0 hw.hold (by omega) hx
    rw [if_neg h1]
    split at h
    · simp at h
    · rename_i h2
      have k2 := off_le (l := off l w.hold.size) (by omega) hw.berth (by omega) (by omega)
      rw [if_neg h2]
      split at h
      · simp at h
      · rename_i h3
        have k3 := off_le (l := off (off l w.hold.size) w.berth.size) (by omega) hw.copy (by omega) (by omega)
        rw [if_neg h3]
        omega

theorem szGrants_le {ws : List Grant} {l : Int} (hw : ListWf Grant.wf ws) (h0 : 0 ≤ l) (hx : l ≤ 1048576) (h : 0 ≤ szGrants ws l) : szGrants ws l ≤ l ∧ ws.length ≤ 1048576 := by
  have go : ∀ (ws : List Grant) (l : Int), (∀ w ∈ ws, w.wf) → 0 ≤ l → l ≤ 1048576 → 0 ≤ szGrantGo ws l → szGrantGo ws l ≤ l := by
    intro ws
    induction ws with
    | nil => intro l _ _ _ _; exact Int.le_refl _
    | cons w r ih =>
      intro l hw h0 hx h
      simp only [szGrantGo] at h ⊢
      split at h
      · simp at h
      · rename_i h1
        rw [if_neg h1]
        have k1 := szGrant_le (hw w List.mem_cons_self) h0 hx (by omega)
        have := ih _ (fun x hx => hw x (List.mem_cons_of_mem _ hx)) (by omega) (by omega) h
        omega
  unfold szGrants at *
  split at h
  · simp at h
  · rename_i h1
    have k1 := off_le h0 hw.len (by omega) hx
    rw [if_neg h1]
    have := go ws _ hw.all (by omega) (by omega) h
    omega

def zeroPlace : List AV := [.str ⟨#[]⟩, .int .i64 0, .sl .own 7 []]

theorem law151 (p : Place) (hp : p.small) : F 151 [.agg (p.c .bor), .agg (p.c .bor)] [] = some (.bool true, []) := by
  refine F_run fn151 rfl ?_
  have := hp.wants
  simp [c151, law5 p.wants (by unfold big; omega)]

def headToPlace (m : Md) (ws : List Place) (i : Nat) : St := hd [(0, .sl .bor 3 (ws.map (Place.c m))), (3, .ref 0), (4, .int .i64 i)] [.arr 3 (fillU (Place.c .own) zeroPlace ws i)] 0

def headEqPlace (m m' : Md) (ws : List Place) (i : Nat) : St := hd [(0, .sl .bor 3 (ws.map (Place.c m))), (1, .sl .bor 3 (ws.map (Place.c m'))), (5, .int .i64 i)] [] 0

theorem law107 (m m' : Md) (ws : List Place) (hl : ws.length < big) (he : ∀ p ∈ ws, p.small) : F 107 [.sl .bor 3 (ws.map (Place.c m)), .sl .bor 3 (ws.map (Place.c m'))] [] = some (.bool true, []) := by
  refine F_run fn107 rfl ?_
  have hm : ws.length ≤ 9223372036854775807 := by unfold big at hl; omega
  simp [c107]
  refine (loop_list ws (fun i (_ : Unit) => headEqPlace m m' ws i) (fun _ _ => True) (fun _ r l => (.bool true, [])) (fun acc Y _ => ?_) (fun i a r acc Y ha hi hr _ hY => ?_) () ?_ trivial ?_).trans rfl
  · simp [headEqPlace, c107b0]
  · have hw : IntKind.i64.wrap ((i : Int) + 1) = (i : Int) + 1 := i64w (by omega) (by omega)
    obtain ⟨_, hg⟩ := List.getElem?_eq_some_iff.1 ha
    have h1 := law151 a (he a (List.mem_of_getElem? ha))
    simp only [Place.c] at h1
    simp [headEqPlace, c107b0, hi, hg, h1]
    rw [hY () _ trivial]
    simp [headEqPlace, hw]
  · simp [headEqPlace]
  · exact hl

noncomputable def szPlace (m : Md) (p : Place) (l : Int) : Int := match F 147 [.agg (p.c m), .int .i64 l] [] with
  | some (.int .i64 r, []) => r
  | _ => -1
noncomputable def szPlaceGo : List Place → Int → Int
  | [], l => l
  | w :: r, l => if szPlace .bor w l < 0 then -1 else szPlaceGo r (szPlace .bor w l)
noncomputable def szPlaces (ws : List Place) (l : Int) : Int := if off l ws.length < 0 then -1 else szPlaceGo ws (off l ws.length)

def headSzPlace (m : Md) (ws : List Place) (l : Int) (i : Nat) : St := hd [(0, .sl .bor 3 (ws.map (Place.c m))), (1, .int .i64 l), (5, .int .i64 i)] [] 0

theorem law22 (m m' : Md) (l : Land) (hl : l.small) : F 22 [.agg (l.c .bor m), .agg (l.c .bor m')] [] = some (.bool true, []) := by
  refine F_run fn22 rfl ?_
  have h1 := hl.grants
  have h2 := hl.places
  simp [c22, law108 l.grants (by unfold big; omega), law107 m m' l.places (by unfold big; omega) hl.each]
end Go.Proofs.Ytojihfiloldkgaa
