/- The laws' own helpers: marks on texts, on lists of mates and on worlds. -/
import Derived.Test.YtojihfiloldkgaaE9
import Derived.Test.YtojihfiloldkgaaE11
namespace Go.Proofs.Ytojihfiloldkgaa
open Go
set_option linter.unusedSimpArgs false
set_option maxRecDepth 100000

/-! ### Texts -/
def marksT : Nat → Int → List T
  | 0, _ => []
  | n + 1, k => markText k :: marksT n (k + 1)
theorem marksT_len : ∀ (n : Nat) (k : Int), (marksT n k).length = n
  | 0, _ => rfl
  | n + 1, k => by simp [marksT, marksT_len n]
theorem marksT_get : ∀ {n : Nat} {k : Int} {i : Nat} {a : T}, (marksT n k)[i]? = some a → a = markText (k + i)
  | 0, _, _, _, h => by simp [marksT] at h
  | n + 1, k, 0, a, h => by simp [marksT] at h; simp [h]
  | n + 1, k, i + 1, a, h => by
    simp only [marksT, List.getElem?_cons_succ] at h
    have := marksT_get h
    rw [this]
    congr 1
    push_cast
    omega

def headMkT (ws done : List T) (k : Int) (i : Nat) : St := hd [(0, .ref 0), (1, .int .i64 k), (5, .int .i64 i)] [.arr 1 ((done.map fun s => [.str s]) ++ (ws.drop i).map fun s => [.str s])] 1

theorem law52 (ws : List T) (k : Int) (h0 : 0 ≤ k) (hl : ws.length ≤ 1048576) (hk : k ≤ 10000000000000) : F 52 [.ref 0, .int .i64 k] [.arr 1 (ws.map fun s => [.str s])] = some (.int .i64 (k + ws.length), [some (.arr 1 ((marksT ws.length k).map fun s => [.str s]))]) := by
  refine F_run fn52 rfl ?_
  simp [c52]
  refine (loop_list ws (fun i (x : List T × Int) => headMkT ws x.1 x.2 i) (fun i x => x.1.length = i ∧ x.2 = k + i) (fun _ r x => (.int .i64 (x.2 + r.length), [some (.arr 1 ((x.1 ++ marksT r.length x.2).map fun s => [.str s]))])) (fun acc Y hacc => ?_) (fun i a r acc Y ha hi hr hacc hY => ?_) ([], k) ?_ ⟨rfl, by simp⟩ ?_).trans ?_
  · simp [headMkT, c52b0, hacc.1, marksT]
  · obtain ⟨hx1, hx2⟩ := hacc
    obtain ⟨done, k'⟩ := acc
    simp only at hx1 hx2
    have hw : IntKind.i64.wrap ((i : Int) + 1) = (i : Int) + 1 := i64w (by omega) (by omega)
    have hd : ws.drop i = a :: r := by rw [hr]; exact (List.drop_eq_getElem_cons hi).trans (by rw [(List.getElem?_eq_some_iff.1 ha).2])
    have m1 := fun (b : List AV) => mid_get (l := done.map fun s => [AV.str s]) (r := r.map fun s => [AV.str s]) (a := b) (i := i) (by simpa using hx1)
    have m3 := fun (b : List AV) => mid_at (l := done.map fun s => [AV.str s]) (r := r.map fun s => [AV.str s]) (a := b) (i := i) (by simpa using hx1)
    have m2 := fun (b b' : List AV) => mid_set (l := done.map fun s => [AV.str s]) (r := r.map fun s => [AV.str s]) (a := b) (b := b') (i := i) (by simpa using hx1)
    have u1 : IntKind.i64.wrap (k' + 1) = k' + 1 := i64w (by omega) (by omega)
    have t1 := law96 k' (by omega)
    have hlt : i < done.length + (r.length + 1) := by omega
    have hltI : (i : Int) < (done.length : Int) + ((r.length : Int) + 1) := by omega
    simp [headMkT, c52b0, hi, hd, hlt, hltI, m1, m2, m3, u1, t1]
    refine (hY (done ++ [markText k'], k' + 1) _ ⟨by simp [hx1], by simp only; omega⟩ ?_).trans ?_
    · simp [headMkT, hw, ← hr]
    · simp [marksT]; omega
  · simp [headMkT]
  · unfold big; omega
  · simp

def headHlT (ws : List T) (k : Int) (i : Nat) : St := hd [(0, .sl .bor 1 (ws.map fun s => [.str s])), (1, .int .i64 k), (5, .int .i64 i)] [] 0

theorem law132 (n : Nat) (k : Int) (h0 : 0 ≤ k) (hl : n ≤ 1048576) (hk : k ≤ 10000000000000) : F 132 [.sl .bor 1 ((marksT n k).map fun s => [.str s]), .int .i64 k] [] = some (.int .i64 (k + n), []) := by
  refine F_run fn132 rfl ?_
  have hln := marksT_len n k
  simp [c132]
  refine (loop_list (marksT n k) (fun i (_ : Unit) => headHlT (marksT n k) (k + i) i) (fun _ _ => True) (fun _ _ _ => (.int .i64 (k + n), [])) (fun acc Y _ => ?_) (fun i a r acc Y ha hi hr _ hY => ?_) () ?_ trivial ?_).trans ?_
  · rw [hln]
    simp [headHlT, c132b0, hln]
  · rw [hln] at hi
    have hw : IntKind.i64.wrap ((i : Int) + 1) = (i : Int) + 1 := i64w (by omega) (by omega)
    obtain ⟨hi2, hg⟩ := List.getElem?_eq_some_iff.1 ha
    obtain rfl := marksT_get ha
    obtain ⟨k', hk'⟩ : ∃ k' : Int, k' = k + (i : Int) := ⟨_, rfl⟩
    rw [← hk'] at hg
    have hn5 : k + ((i + 1 : Nat) : Int) = k' + 1 := by push_cast; omega
    have u1 : IntKind.i64.wrap (k' + 1) = k' + 1 := i64w (by omega) (by omega)
    have t1 := law96 k' (by omega)
    rw [← hk']
    simp [headHlT, c132b0, hi, hln, hg, u1, t1]
    refine (hY () _ trivial ?_)
    rw [hn5]
    simp [headHlT, hw]
  · simp [headHlT]
  · rw [hln]; unfold big; omega
  · rfl

/-! ### Mates -/
def markMateF (m : Mate) (k : Int) : Mate := { markMate m (k + 5) with name := markText k, up := Int.tmod (k + 1) 3 == 0, clock := k + 2, known := Int.tmod (k + 3) 3 == 0, seen := k + 4 }
def marksMate : List Mate → Int → List Mate
  | [], _ => []
  | p :: r, k => markMateF p k :: marksMate r (markMateK p (k + 5))
def markMatesK : List Mate → Int → Int
  | [], k => k
  | p :: r, k => markMatesK r (markMateK p (k + 5))
theorem le_markMateK (m : Mate) (k : Int) : k ≤ markMateK m k := by unfold markMateK; omega
theorem le_markMatesK : ∀ (ws : List Mate) (k : Int), k ≤ markMatesK ws k
  | [], k => Int.le_refl _
  | p :: r, k => by
    have h1 := le_markMatesK r (markMateK p (k + 5))
    have h2 := le_markMateK p (k + 5)
    simp only [markMatesK]
    omega
theorem marksMate_len : ∀ (ws : List Mate) (k : Int), (marksMate ws k).length = ws.length
  | [], _ => rfl
  | p :: r, k => by simp [marksMate, marksMate_len r]
theorem marksMate_get : ∀ {ws : List Mate} {k : Int} {i : Nat} {a : Mate}, ws[i]? = some a → (marksMate ws k)[i]? = some (markMateF a (markMatesK (ws.take i) k))
  | [], _, _, _, h => by simp at h
  | p :: r, k, 0, a, h => by simp at h; subst h; simp [marksMate, markMatesK]
  | p :: r, k, i + 1, a, h => by
    simp only [List.getElem?_cons_succ] at h
    simp only [marksMate, List.getElem?_cons_succ, List.take_succ_cons, markMatesK]
    exact marksMate_get h
theorem markMatesK_take : ∀ {ws : List Mate} {k : Int} {i : Nat} {a : Mate}, ws[i]? = some a → markMatesK (ws.take (i + 1)) k = markMateK a (markMatesK (ws.take i) k + 5)
  | [], _, _, _, h => by simp at h
  | p :: r, k, 0, a, h => by simp at h; subst h; simp [markMatesK]
  | p :: r, k, i + 1, a, h => by
    simp only [List.getElem?_cons_succ] at h
    simp only [List.take_succ_cons, markMatesK]
    exact markMatesK_take h
theorem markMatesK_le_all : ∀ (ws : List Mate) (k : Int) (i : Nat), markMatesK (ws.take i) k ≤ markMatesK ws k
  | [], k, i => by simp [markMatesK]
  | p :: r, k, 0 => by simp only [List.take_zero]; exact le_markMatesK (p :: r) k
  | p :: r, k, i + 1 => by simp only [List.take_succ_cons, markMatesK]; exact markMatesK_le_all r _ i

def headMkMate (ws done : List Mate) (k : Int) (i : Nat) : St := hd [(0, .ref 0), (1, .int .i64 k), (5, .int .i64 i)] [.arr 9 (done.map (Mate.c .own) ++ (ws.drop i).map (Mate.c .own))] 1

theorem law131 (ws : List Mate) (k : Int) (h0 : 0 ≤ k) (hl : ws.length ≤ 1048576) (he : ∀ p ∈ ws, p.small) (hk : markMatesK ws k ≤ 10000000000000) :
    F 131 [.ref 0, .int .i64 k] [.arr 9 (ws.map (Mate.c .own))] = some (.int .i64 (markMatesK ws k), [some (.arr 9 ((marksMate ws k).map (Mate.c .own)))]) := by
  refine F_run fn131 rfl ?_
  simp [c131]
  refine (loop_list ws (fun i (x : List Mate × Int) => headMkMate ws x.1 x.2 i) (fun i x => x.1.length = i ∧ 0 ≤ x.2 ∧ markMatesK (ws.drop i) x.2 ≤ 10000000000000) (fun _ r x => (.int .i64 (markMatesK r x.2), [some (.arr 9 ((x.1 ++ marksMate r x.2).map (Mate.c .own)))])) (fun acc Y hacc => ?_) (fun i a r acc Y ha hi hr hacc hY => ?_) ([], k) ?_ ⟨rfl, h0, hk⟩ ?_).trans ?_
  · simp [headMkMate, c131b0, hacc.1, marksMate, markMatesK]
  · obtain ⟨hx1, hx2, hx3⟩ := hacc
    obtain ⟨done, k'⟩ := acc
    simp only at hx1 hx2 hx3
    have hw : IntKind.i64.wrap ((i : Int) + 1) = (i : Int) + 1 := i64w (by omega) (by omega)
    have hd : ws.drop i = a :: r := by rw [hr]; exact (List.drop_eq_getElem_cons hi).trans (by rw [(List.getElem?_eq_some_iff.1 ha).2])
    rw [hd] at hx3
    simp only [markMatesK] at hx3
    have hx4 := le_markMatesK r (markMateK a (k' + 5))
    have hK : markMateK a (k' + 5) = k' + 5 + 7 * a.wants.length + 11 * a.runs.length + 4 * a.asks.length + 4 * a.gives.length := rfl
    have m1 := fun (b : List AV) => mid_get (l := done.map (Mate.c .own)) (r := r.map (Mate.c .own)) (a := b) (i := i) (by simpa using hx1)
    have m3 := fun (b : List AV) => mid_at (l := done.map (Mate.c .own)) (r := r.map (Mate.c .own)) (a := b) (i := i) (by simpa using hx1)
    have m2 := fun (b b' : List AV) => mid_set (l := done.map (Mate.c .own)) (r := r.map (Mate.c .own)) (a := b) (b := b') (i := i) (by simpa using hx1)
    obtain ⟨s1, s2, s3, s4⟩ := he a (List.mem_of_getElem? ha)
    have u1 : IntKind.i64.wrap (k' + 1) = k' + 1 := i64w (by omega) (by omega)
    have u2 : IntKind.i64.wrap (k' + 1 + 1) = k' + 2 := by rw [i64w (by omega) (by omega)]; omega
    have u3 : IntKind.i64.wrap (k' + 2 + 1) = k' + 3 := by rw [i64w (by omega) (by omega)]; omega
    have u4 : IntKind.i64.wrap (k' + 3 + 1) = k' + 4 := by rw [i64w (by omega) (by omega)]; omega
    have u5 : IntKind.i64.wrap (k' + 4 + 1) = k' + 5 := by rw [i64w (by omega) (by omega)]; omega
    have t1 := law96 k' (by omega)
    have t2 := law71 a.wants (k' + 5) (by omega) s1 (by omega)
    have t3 := law19 a.runs (k' + 5 + 7 * a.wants.length) (by omega) s2 (by omega)
    have t4 := law128 a.asks (k' + 5 + 7 * a.wants.length + 11 * a.runs.length) (by omega) s3 (by omega)
    have t5 := law128 a.gives (k' + 5 + 7 * a.wants.length + 11 * a.runs.length + 4 * a.asks.length) (by omega) s4 (by omega)
    have hlt : i < done.length + (r.length + 1) := by
      have := congrArg List.length hd
      simp at this
      omega
    have hltI : (i : Int) < (done.length : Int) + ((r.length : Int) + 1) := by omega
    simp [headMkMate, c131b0, hi, hd, hlt, hltI, m1, m2, m3, u1, u2, u3, u4, u5, t1, t2, t3, t4, t5]
    refine (hY (done ++ [markMateF a k'], markMateK a (k' + 5)) _ ⟨by simp [hx1], by simp only; omega, by rw [← hr]; exact hx3⟩ ?_).trans ?_
    · simp [headMkMate, hw, markMateF, markMate, markMateK, ← hr]
    · simp [marksMate, markMatesK]
  · simp [headMkMate]
  · unfold big; omega
  · simp

def headHlMate (xs : List Mate) (k : Int) (i : Nat) : St := hd [(0, .sl .bor 9 (xs.map (Mate.c .own))), (1, .int .i64 k), (5, .int .i64 i)] [] 0

theorem law133 (ws : List Mate) (k : Int) (h0 : 0 ≤ k) (hl : ws.length ≤ 1048576) (he : ∀ p ∈ ws, p.small) (hk : markMatesK ws k ≤ 10000000000000) :
    F 133 [.sl .bor 9 ((marksMate ws k).map (Mate.c .own)), .int .i64 k] [] = some (.int .i64 (markMatesK ws k), []) := by
  refine F_run fn133 rfl ?_
  have hln := marksMate_len ws k
  simp [c133]
  refine (loop_list ws (fun i (k' : Int) => headHlMate (marksMate ws k) k' i) (fun i k' => k' = markMatesK (ws.take i) k) (fun _ _ _ => (.int .i64 (markMatesK ws k), [])) (fun acc Y hacc => ?_) (fun i a r acc Y ha hi hr hacc hY => ?_) k ?_ rfl ?_).trans ?_
  · simp [headHlMate, c133b0, hln, hacc]
  · have hw : IntKind.i64.wrap ((i : Int) + 1) = (i : Int) + 1 := i64w (by omega) (by omega)
    have hg0 := marksMate_get (k := k) ha
    obtain ⟨s1, s2, s3, s4⟩ := he a (List.mem_of_getElem? ha)
    have h5 := markMatesK_take (k := k) ha
    have h6 := markMatesK_le_all ws k (i + 1)
    have h7 := le_markMatesK (ws.take i) k
    rw [← hacc] at hg0 h5 h7
    obtain ⟨hi2, hg⟩ := List.getElem?_eq_some_iff.1 hg0
    have hK : markMateK a (acc + 5) = acc + 5 + 7 * a.wants.length + 11 * a.runs.length + 4 * a.asks.length + 4 * a.gives.length := rfl
    have u1 : IntKind.i64.wrap (acc + 1) = acc + 1 := i64w (by omega) (by omega)
    have u2 : IntKind.i64.wrap (acc + 1 + 1) = acc + 2 := by rw [i64w (by omega) (by omega)]; omega
    have u3 : IntKind.i64.wrap (acc + 2 + 1) = acc + 3 := by rw [i64w (by omega) (by omega)]; omega
    have u4 : IntKind.i64.wrap (acc + 3 + 1) = acc + 4 := by rw [i64w (by omega) (by omega)]; omega
    have u5 : IntKind.i64.wrap (acc + 4 + 1) = acc + 5 := by rw [i64w (by omega) (by omega)]; omega
    have t1 := law96 acc (by omega)
    have t2 := law127 a.wants.length (acc + 5) (by omega) s1 (by omega)
    have t3 := law17 a.runs.length (acc + 5 + 7 * a.wants.length) (by omega) s2 (by omega)
    have t4 := law129 a.asks.length (acc + 5 + 7 * a.wants.length + 11 * a.runs.length) (by omega) s3 (by omega)
    have t5 := law129 a.gives.length (acc + 5 + 7 * a.wants.length + 11 * a.runs.length + 4 * a.asks.length) (by omega) s4 (by omega)
    have n1 : ¬ (acc + 5 + 7 * (a.wants.length : Int) < 0) := by omega
    have n2 : ¬ (acc + 5 + 7 * (a.wants.length : Int) + 11 * a.runs.length < 0) := by omega
    have n3 : ¬ (acc + 5 + 7 * (a.wants.length : Int) + 11 * a.runs.length + 4 * a.asks.length < 0) := by omega
    have n4 : ¬ (acc + 5 + 7 * (a.wants.length : Int) + 11 * a.runs.length + 4 * a.asks.length + 4 * a.gives.length < 0) := by omega
    simp [headHlMate, c133b0, hi, hln, hg, markMateF, markMate, u1, u2, u3, u4, u5, t1, t2, t3, t4, t5, n1, n2, n3, n4]
    refine (hY (markMateK a (acc + 5)) _ h5.symm ?_)
    simp [headHlMate, hw, markMateK]
  · simp [headHlMate]
  · unfold big; omega
  · rfl

/-! ### Worlds -/
def markWld (w : Wld) (k : Int) : Wld := ⟨markLand w.land k, marksMate w.mates (markLandK w.land k), marksT w.flight.length (markMatesK w.mates (markLandK w.land k))⟩
def markWldK (w : Wld) (k : Int) : Int := markMatesK w.mates (markLandK w.land k) + w.flight.length
def Wld.refs (n : Nat) (w : Wld) : List AV := [.int .i64 w.land.time, .ref n, .ref (n + 1), .ref (n + 2), .ref (n + 3)]
def Wld.arrs (w : Wld) : List AO := [.arr 5 (w.land.grants.map Grant.c), .arr 3 (w.land.places.map (Place.c .own)), .arr 9 (w.mates.map (Mate.c .own)), .arr 1 (w.flight.map fun s => [.str s])]

theorem law51 (w : Wld) (k : Int) (hw : w.small) (h0 : 0 ≤ k) (hk : markWldK w k ≤ 10000000000000) : F 51 [.agg (w.refs 0), .int .i64 k] w.arrs = some (.int .i64 (markWldK w k), (markWld w k).arrs.map some) := by
  refine F_run fn51 rfl ?_
  have h1 := le_markLandK w.land k
  have h2 := le_markMatesK w.mates (markLandK w.land k)
  unfold markWldK at hk
  have w1 := law43 w.land k hw.land h0 (by omega)
  have w2 := law131 w.mates (markLandK w.land k) (by omega) hw.mates hw.each (by omega)
  have w3 := law52 w.flight (markMatesK w.mates (markLandK w.land k)) (by omega) hw.flight (by omega)
  simp only [Land.refs, Land.arrs] at w1
  simp [c51, Wld.refs, Wld.arrs, w1, w2, w3, markWld, markWldK, markLand]

theorem law47 (w : Wld) (k : Int) (hw : w.small) (h0 : 0 ≤ k) (hk : markWldK w k ≤ 10000000000000) : F 47 [.agg ((markWld w k).c .bor .own), .int .i64 k] [] = some (.int .i64 (markWldK w k), []) := by
  refine F_run fn47 rfl ?_
  have h1 := le_markLandK w.land k
  have h2 := le_markMatesK w.mates (markLandK w.land k)
  unfold markWldK at hk
  have w1 := law39 w.land k hw.land h0 (by omega)
  have w2 := law133 w.mates (markLandK w.land k) (by omega) hw.mates hw.each (by omega)
  have w3 := law132 w.flight.length (markMatesK w.mates (markLandK w.land k)) (by omega) hw.flight (by omega)
  have n1 : ¬ (markLandK w.land k < 0) := by omega
  have n2 : ¬ (markMatesK w.mates (markLandK w.land k) < 0) := by omega
  have n3 : ¬ (markMatesK w.mates (markLandK w.land k) + (w.flight.length : Int) < 0) := by omega
  simp only [Land.c] at w1
  simp [c47, markWld, markWldK, w1, w2, w3, n1, n2, n3]
end Go.Proofs.Ytojihfiloldkgaa
