/- The laws' own helpers: marks on books and on lists of parcels. -/
import Derived.Test.YtojihfiloldkgaaE7
import Derived.Test.YtojihfiloldkgaaE8
import Derived.Test.YtojihfiloldkgaaE10
namespace Go.Proofs.Ytojihfiloldkgaa
open Go
set_option linter.unusedSimpArgs false
set_option maxRecDepth 100000

theorem mid_get {α : Type} {l r : List α} {a : α} {i : Nat} (h : l.length = i) : (l ++ a :: r)[i]? = some a := by subst h; simp
theorem mid_at {α : Type} {l r : List α} {a : α} {i : Nat} (h : l.length = i) (hp : i < (l ++ a :: r).length) : (l ++ a :: r)[i] = a := by subst h; simp
theorem mid_set {α : Type} {l r : List α} {a b : α} {i : Nat} (h : l.length = i) : (l ++ a :: r).set i b = l ++ b :: r := by subst h; simp

/-! ### Grants -/
def markGrant (k : Int) : Grant := ⟨markText k, markText (k + 1), markText (k + 2), k + 3, k + 4⟩
def marksGrant : Nat → Int → List Grant
  | 0, _ => []
  | n + 1, k => markGrant k :: marksGrant n (k + 5)
theorem marksGrant_len : ∀ (n : Nat) (k : Int), (marksGrant n k).length = n
  | 0, _ => rfl
  | n + 1, k => by simp [marksGrant, marksGrant_len n]

def headMkGrant (ws done : List Grant) (k : Int) (i : Nat) : St := hd [(0, .ref 0), (1, .int .i64 k), (5, .int .i64 i)] [.arr 5 (done.map Grant.c ++ (ws.drop i).map Grant.c)] 1

theorem law124 (ws : List Grant) (k : Int) (h0 : 0 ≤ k) (hl : ws.length ≤ 1048576) (hk : k ≤ 10000000000000) : F 124 [.ref 0, .int .i64 k] [.arr 5 (ws.map Grant.c)] = some (.int .i64 (k + 5 * ws.length), [some (.arr 5 ((marksGrant ws.length k).map Grant.c))]) := by
  refine F_run fn124 rfl ?_
  simp [c124]
  refine (loop_list ws (fun i (x : List Grant × Int) => headMkGrant ws x.1 x.2 i) (fun i x => x.1.length = i ∧ x.2 = k + 5 * i) (fun _ r x => (.int .i64 (x.2 + 5 * r.length), [some (.arr 5 ((x.1 ++ marksGrant r.length x.2).map Grant.c))])) (fun acc Y hacc => ?_) (fun i a r acc Y ha hi hr hacc hY => ?_) ([], k) ?_ ⟨rfl, by simp⟩ ?_).trans ?_
  · simp [headMkGrant, c124b0, hacc.1, marksGrant]
  · obtain ⟨hx1, hx2⟩ := hacc
    obtain ⟨done, k'⟩ := acc
    simp only at hx1 hx2
    have hw : IntKind.i64.wrap ((i : Int) + 1) = (i : Int) + 1 := i64w (by omega) (by omega)
    have hd : ws.drop i = a :: r := by rw [hr]; exact (List.drop_eq_getElem_cons hi).trans (by rw [(List.getElem?_eq_some_iff.1 ha).2])
    have hln : done.length + (ws.length - i) = ws.length := by omega
    have m1 := fun (b : List AV) => mid_get (l := done.map Grant.c) (r := r.map Grant.c) (a := b) (i := i) (by simpa using hx1)
    have m3 := fun (b : List AV) => mid_at (l := done.map Grant.c) (r := r.map Grant.c) (a := b) (i := i) (by simpa using hx1)
    have m2 := fun (b b' : List AV) => mid_set (l := done.map Grant.c) (r := r.map Grant.c) (a := b) (b := b') (i := i) (by simpa using hx1)
    have u1 : IntKind.i64.wrap (k' + 1) = k' + 1 := i64w (by omega) (by omega)
    have u2 : IntKind.i64.wrap (k' + 1 + 1) = k' + 2 := by rw [i64w (by omega) (by omega)]; omega
    have u3 : IntKind.i64.wrap (k' + 2 + 1) = k' + 3 := by rw [i64w (by omega) (by omega)]; omega
    have u4 : IntKind.i64.wrap (k' + 3 + 1) = k' + 4 := by rw [i64w (by omega) (by omega)]; omega
    have u5 : IntKind.i64.wrap (k' + 4 + 1) = k' + 5 := by rw [i64w (by omega) (by omega)]; omega
    have t1 := law96 k' (by omega)
    have t2 := law96 (k' + 1) (by omega)
    have t3 := law96 (k' + 2) (by omega)
    have hlt : i < done.length + (r.length + 1) := by omega
    have hltI : (i : Int) < (done.length : Int) + ((r.length : Int) + 1) := by omega
    simp [headMkGrant, c124b0, hi, hln, hd, hlt, hltI, m1, m2, m3, u1, u2, u3, u4, u5, t1, t2, t3]
    refine (hY (done ++ [markGrant k'], k' + 5) _ ⟨by simp [hx1], by simp only; omega⟩ ?_).trans ?_
    · rw [hr]
      simp [headMkGrant, hw, markGrant]
    · simp [marksGrant]; omega
  · simp [headMkGrant]
  · unfold big; omega
  · simp

def headHlGrant (ws : List Grant) (k : Int) (i : Nat) : St := hd [(0, .sl .bor 5 (ws.map Grant.c)), (1, .int .i64 k), (5, .int .i64 i)] [] 0

theorem marksGrant_get : ∀ {n : Nat} {k : Int} {i : Nat} {a : Grant}, (marksGrant n k)[i]? = some a → a = markGrant (k + 5 * i)
  | 0, _, _, _, h => by simp [marksGrant] at h
  | n + 1, k, 0, a, h => by simp [marksGrant] at h; simp [h]
  | n + 1, k, i + 1, a, h => by
    simp only [marksGrant, List.getElem?_cons_succ] at h
    have := marksGrant_get h
    rw [this]
    congr 1
    push_cast
    omega

theorem law126 (n : Nat) (k : Int) (h0 : 0 ≤ k) (hl : n ≤ 1048576) (hk : k ≤ 10000000000000) : F 126 [.sl .bor 5 ((marksGrant n k).map Grant.c), .int .i64 k] [] = some (.int .i64 (k + 5 * n), []) := by
  refine F_run fn126 rfl ?_
  have hln := marksGrant_len n k
  simp [c126]
  refine (loop_list (marksGrant n k) (fun i (_ : Unit) => headHlGrant (marksGrant n k) (k + 5 * i) i) (fun _ _ => True) (fun _ _ _ => (.int .i64 (k + 5 * n), [])) (fun acc Y _ => ?_) (fun i a r acc Y ha hi hr _ hY => ?_) () ?_ trivial ?_).trans ?_
  · rw [hln]
    simp [headHlGrant, c126b0, hln]
  · rw [hln] at hi
    have hw : IntKind.i64.wrap ((i : Int) + 1) = (i : Int) + 1 := i64w (by omega) (by omega)
    obtain ⟨hi2, hg⟩ := List.getElem?_eq_some_iff.1 ha
    obtain rfl := marksGrant_get ha
    have hK : ∃ k' : Int, k' = k + 5 * (i : Int) := ⟨_, rfl⟩
    obtain ⟨k', hk'⟩ := hK
    rw [← hk'] at hg
    have hn5 : k + 5 * ((i + 1 : Nat) : Int) = k' + 5 := by push_cast; omega
    have u1 : IntKind.i64.wrap (k' + 1) = k' + 1 := i64w (by omega) (by omega)
    have u2 : IntKind.i64.wrap (k' + 1 + 1) = k' + 2 := by rw [i64w (by omega) (by omega)]; omega
    have u3 : IntKind.i64.wrap (k' + 2 + 1) = k' + 3 := by rw [i64w (by omega) (by omega)]; omega
    have u4 : IntKind.i64.wrap (k' + 3 + 1) = k' + 4 := by rw [i64w (by omega) (by omega)]; omega
    have u5 : IntKind.i64.wrap (k' + 4 + 1) = k' + 5 := by rw [i64w (by omega) (by omega)]; omega
    have t1 := law96 k' (by omega)
    have t2 := law96 (k' + 1) (by omega)
    have t3 := law96 (k' + 2) (by omega)
    rw [← hk']
    simp [headHlGrant, c126b0, hi, hln, hg, markGrant, u1, u2, u3, u4, u5, t1, t2, t3]
    refine (hY () _ trivial ?_)
    rw [hn5]
    simp [headHlGrant, hw]
  · simp [headHlGrant]
  · rw [hln]; unfold big; omega
  · rfl

/-! ### Places -/
def markPlace (p : Place) (k : Int) : Place := ⟨markText k, k + 1, marksWant p.wants.length (k + 2)⟩
def marksPlace : List Place → Int → List Place
  | [], _ => []
  | p :: r, k => markPlace p k :: marksPlace r (k + 2 + 7 * p.wants.length)
def markPlaceK : List Place → Int → Int
  | [], k => k
  | p :: r, k => markPlaceK r (k + 2 + 7 * p.wants.length)

theorem markPlaceK_le : ∀ (ws : List Place) (k : Int), (∀ p ∈ ws, p.small) → markPlaceK ws k ≤ k + ws.length * 7340034
  | [], k, _ => by simp [markPlaceK]
  | p :: r, k, h => by
    have h1 := (h p List.mem_cons_self).wants
    have h2 := markPlaceK_le r (k + 2 + 7 * p.wants.length) (fun q hq => h q (List.mem_cons_of_mem _ hq))
    simp only [markPlaceK, List.length_cons]
    push_cast
    omega
theorem le_markPlaceK : ∀ (ws : List Place) (k : Int), k ≤ markPlaceK ws k
  | [], k => Int.le_refl _
  | p :: r, k => by
    have := le_markPlaceK r (k + 2 + 7 * p.wants.length)
    simp only [markPlaceK]
    omega

def headMkPlace (ws done : List Place) (k : Int) (i : Nat) : St := hd [(0, .ref 0), (1, .int .i64 k), (5, .int .i64 i)] [.arr 3 (done.map (Place.c .own) ++ (ws.drop i).map (Place.c .own))] 1

theorem law123 (ws : List Place) (k : Int) (h0 : 0 ≤ k) (hl : ws.length ≤ 1048576) (he : ∀ p ∈ ws, p.small) (hk : markPlaceK ws k ≤ 10000000000000) :
    F 123 [.ref 0, .int .i64 k] [.arr 3 (ws.map (Place.c .own))] = some (.int .i64 (markPlaceK ws k), [some (.arr 3 ((marksPlace ws k).map (Place.c .own)))]) := by
  refine F_run fn123 rfl ?_
  simp [c123]
  refine (loop_list ws (fun i (x : List Place × Int) => headMkPlace ws x.1 x.2 i) (fun i x => x.1.length = i ∧ 0 ≤ x.2 ∧ markPlaceK (ws.drop i) x.2 ≤ 10000000000000) (fun _ r x => (.int .i64 (markPlaceK r x.2), [some (.arr 3 ((x.1 ++ marksPlace r x.2).map (Place.c .own)))])) (fun acc Y hacc => ?_) (fun i a r acc Y ha hi hr hacc hY => ?_) ([], k) ?_ ⟨rfl, h0, hk⟩ ?_).trans ?_
  · simp [headMkPlace, c123b0, hacc.1, marksPlace, markPlaceK]
  · obtain ⟨hx1, hx2, hx3⟩ := hacc
    obtain ⟨done, k'⟩ := acc
    simp only at hx1 hx2 hx3
    have hw : IntKind.i64.wrap ((i : Int) + 1) = (i : Int) + 1 := i64w (by omega) (by omega)
    have hd : ws.drop i = a :: r := by rw [hr]; exact (List.drop_eq_getElem_cons hi).trans (by rw [(List.getElem?_eq_some_iff.1 ha).2])
    rw [hd] at hx3
    have hx4 := le_markPlaceK r (k' + 2 + 7 * a.wants.length)
    simp only [markPlaceK] at hx3
    have hln : done.length + (ws.length - i) = ws.length := by omega
    have m1 := fun (b : List AV) => mid_get (l := done.map (Place.c .own)) (r := r.map (Place.c .own)) (a := b) (i := i) (by simpa using hx1)
    have m3 := fun (b : List AV) => mid_at (l := done.map (Place.c .own)) (r := r.map (Place.c .own)) (a := b) (i := i) (by simpa using hx1)
    have m2 := fun (b b' : List AV) => mid_set (l := done.map (Place.c .own)) (r := r.map (Place.c .own)) (a := b) (b := b') (i := i) (by simpa using hx1)
    have u1 : IntKind.i64.wrap (k' + 1) = k' + 1 := i64w (by omega) (by omega)
    have u2 : IntKind.i64.wrap (k' + 1 + 1) = k' + 2 := by rw [i64w (by omega) (by omega)]; omega
    have t1 := law96 k' (by omega)
    have t2 := law71 a.wants (k' + 2) (by omega) (he a (List.mem_of_getElem? ha)).wants (by omega)
    have hlt : i < done.length + (r.length + 1) := by
      have := congrArg List.length hd
      simp at this
      omega
    have hltI : (i : Int) < (done.length : Int) + ((r.length : Int) + 1) := by omega
    simp [headMkPlace, c123b0, hi, hln, hd, hlt, hltI, m1, m2, m3, u1, u2, t1, t2]
    refine (hY (done ++ [markPlace a k'], k' + 2 + 7 * a.wants.length) _ ⟨by simp [hx1], by simp only; omega, by rw [← hr]; exact hx3⟩ ?_).trans ?_
    · simp [headMkPlace, hw, markPlace, ← hr]
    · simp [marksPlace, markPlaceK]
  · simp [headMkPlace]
  · unfold big; omega
  · simp

theorem marksPlace_len : ∀ (ws : List Place) (k : Int), (marksPlace ws k).length = ws.length
  | [], _ => rfl
  | p :: r, k => by simp [marksPlace, marksPlace_len r]
theorem marksPlace_get : ∀ {ws : List Place} {k : Int} {i : Nat} {a : Place}, ws[i]? = some a → (marksPlace ws k)[i]? = some (markPlace a (markPlaceK (ws.take i) k))
  | [], _, _, _, h => by simp at h
  | p :: r, k, 0, a, h => by simp at h; subst h; simp [marksPlace, markPlaceK]
  | p :: r, k, i + 1, a, h => by
    simp only [List.getElem?_cons_succ] at h
    simp only [marksPlace, List.getElem?_cons_succ, List.take_succ_cons, markPlaceK]
    exact marksPlace_get h
theorem markPlaceK_take : ∀ {ws : List Place} {k : Int} {i : Nat} {a : Place}, ws[i]? = some a → markPlaceK (ws.take (i + 1)) k = markPlaceK (ws.take i) k + 2 + 7 * a.wants.length
  | [], _, _, _, h => by simp at h
  | p :: r, k, 0, a, h => by simp at h; subst h; simp [markPlaceK]
  | p :: r, k, i + 1, a, h => by
    simp only [List.getElem?_cons_succ] at h
    simp only [List.take_succ_cons, markPlaceK]
    exact markPlaceK_take h
theorem markPlaceK_le_all : ∀ (ws : List Place) (k : Int) (i : Nat), markPlaceK (ws.take i) k ≤ markPlaceK ws k
  | [], k, i => by simp [markPlaceK]
  | p :: r, k, 0 => by simp only [List.take_zero]; exact le_markPlaceK (p :: r) k
  | p :: r, k, i + 1 => by simp only [List.take_succ_cons, markPlaceK]; exact markPlaceK_le_all r _ i

def headHlPlace (xs : List Place) (k : Int) (i : Nat) : St := hd [(0, .sl .bor 3 (xs.map (Place.c .own))), (1, .int .i64 k), (5, .int .i64 i)] [] 0

theorem law125 (ws : List Place) (k : Int) (h0 : 0 ≤ k) (hl : ws.length ≤ 1048576) (he : ∀ p ∈ ws, p.small) (hk : markPlaceK ws k ≤ 10000000000000) :
    F 125 [.sl .bor 3 ((marksPlace ws k).map (Place.c .own)), .int .i64 k] [] = some (.int .i64 (markPlaceK ws k), []) := by
  refine F_run fn125 rfl ?_
  have hln := marksPlace_len ws k
  simp [c125]
  refine (loop_list ws (fun i (k' : Int) => headHlPlace (marksPlace ws k) k' i) (fun i k' => k' = markPlaceK (ws.take i) k) (fun _ _ _ => (.int .i64 (markPlaceK ws k), [])) (fun acc Y hacc => ?_) (fun i a r acc Y ha hi hr hacc hY => ?_) k ?_ rfl ?_).trans ?_
  · simp [headHlPlace, c125b0, hln, hacc]
  · have hw : IntKind.i64.wrap ((i : Int) + 1) = (i : Int) + 1 := i64w (by omega) (by omega)
    have hg0 := marksPlace_get (k := k) ha
    have hs := he a (List.mem_of_getElem? ha)
    have h5 := markPlaceK_take (k := k) ha
    have h6 := markPlaceK_le_all ws k (i + 1)
    have h7 := le_markPlaceK (ws.take i) k
    rw [← hacc] at hg0 h5 h7
    obtain ⟨hi2, hg⟩ := List.getElem?_eq_some_iff.1 hg0
    have u1 : IntKind.i64.wrap (acc + 1) = acc + 1 := i64w (by omega) (by omega)
    have u2 : IntKind.i64.wrap (acc + 1 + 1) = acc + 2 := by rw [i64w (by omega) (by omega)]; omega
    have t1 := law96 acc (by omega)
    have t2 := law127 a.wants.length (acc + 2) (by omega) hs.wants (by omega)
    have n1 : ¬ (acc + 2 + 7 * (a.wants.length : Int) < 0) := by omega
    simp [headHlPlace, c125b0, hi, hln, hg, markPlace, u1, u2, t1, t2, n1]
    refine (hY (acc + 2 + 7 * a.wants.length) _ h5.symm ?_)
    simp [headHlPlace, hw]
  · simp [headHlPlace]
  · unfold big; omega
  · rfl

/-! ### Books -/
def markLand (l : Land) (k : Int) : Land := ⟨l.time, marksGrant l.grants.length k, marksPlace l.places (k + 5 * l.grants.length)⟩
def markLandK (l : Land) (k : Int) : Int := markPlaceK l.places (k + 5 * l.grants.length)
def Land.refs (n : Nat) (l : Land) : List AV := [.int .i64 l.time, .ref n, .ref (n + 1)]
def Land.arrs (l : Land) : List AO := [.arr 5 (l.grants.map Grant.c), .arr 3 (l.places.map (Place.c .own))]

theorem markLandK_le {l : Land} {k : Int} (hl : l.small) : markLandK l k ≤ k + 7700000000000 := by
  have h1 := markPlaceK_le l.places (k + 5 * l.grants.length) hl.each
  have h2 := hl.grants
  have h3 := hl.places
  unfold markLandK
  omega
theorem le_markLandK (l : Land) (k : Int) : k ≤ markLandK l k := by
  have := le_markPlaceK l.places (k + 5 * l.grants.length)
  unfold markLandK
  omega

theorem law43 (l : Land) (k : Int) (hl : l.small) (h0 : 0 ≤ k) (hk : markLandK l k ≤ 10000000000000) : F 43 [.agg (l.refs 0), .int .i64 k] l.arrs = some (.int .i64 (markLandK l k), (markLand l k).arrs.map some) := by
  refine F_run fn43 rfl ?_
  have h1 := le_markPlaceK l.places (k + 5 * l.grants.length)
  unfold markLandK at hk
  have w1 := law124 l.grants k h0 hl.grants (by omega)
  have w2 := law123 l.places (k + 5 * l.grants.length) (by omega) hl.places hl.each hk
  simp [c43, Land.refs, Land.arrs, w1, w2, markLand, markLandK]

theorem law39 (l : Land) (k : Int) (hl : l.small) (h0 : 0 ≤ k) (hk : markLandK l k ≤ 10000000000000) : F 39 [.agg ((markLand l k).c .bor .own), .int .i64 k] [] = some (.int .i64 (markLandK l k), []) := by
  refine F_run fn39 rfl ?_
  have h1 := le_markPlaceK l.places (k + 5 * l.grants.length)
  unfold markLandK at hk
  have w1 := law126 l.grants.length k h0 hl.grants (by omega)
  have w2 := law125 l.places (k + 5 * l.grants.length) (by omega) hl.places hl.each hk
  have n1 : ¬ (k + 5 * (l.grants.length : Int) < 0) := by omega
  have n2 : ¬ (markPlaceK l.places (k + 5 * (l.grants.length : Int)) < 0) := by omega
  simp [c39, markLand, markLandK, w1, w2, n1, n2]

/-! ### Parcels -/
def markParcel (p : Parcel) (k : Int) : Parcel :=
  ⟨k, markText (k + 1), k + 2, marksWant p.wants.length (k + 3), markText (k + 3 + 7 * p.wants.length), markText (k + 4 + 7 * p.wants.length), k + 5 + 7 * p.wants.length⟩
def marksParcel : List Parcel → Int → List Parcel
  | [], _ => []
  | p :: r, k => markParcel p k :: marksParcel r (k + 6 + 7 * p.wants.length)
def markParcelK : List Parcel → Int → Int
  | [], k => k
  | p :: r, k => markParcelK r (k + 6 + 7 * p.wants.length)
theorem markParcelK_le : ∀ (ws : List Parcel) (k : Int), (∀ p ∈ ws, p.small) → markParcelK ws k ≤ k + ws.length * 7340038
  | [], k, _ => by simp [markParcelK]
  | p :: r, k, h => by
    have h1 := (h p List.mem_cons_self).wants
    have h2 := markParcelK_le r (k + 6 + 7 * p.wants.length) (fun q hq => h q (List.mem_cons_of_mem _ hq))
    simp only [markParcelK, List.length_cons]
    push_cast
    omega
theorem le_markParcelK : ∀ (ws : List Parcel) (k : Int), k ≤ markParcelK ws k
  | [], k => Int.le_refl _
  | p :: r, k => by
    have := le_markParcelK r (k + 6 + 7 * p.wants.length)
    simp only [markParcelK]
    omega
theorem marksParcel_len : ∀ (ws : List Parcel) (k : Int), (marksParcel ws k).length = ws.length
  | [], _ => rfl
  | p :: r, k => by simp [marksParcel, marksParcel_len r]
theorem marksParcel_get : ∀ {ws : List Parcel} {k : Int} {i : Nat} {a : Parcel}, ws[i]? = some a → (marksParcel ws k)[i]? = some (markParcel a (markParcelK (ws.take i) k))
  | [], _, _, _, h => by simp at h
  | p :: r, k, 0, a, h => by simp at h; subst h; simp [marksParcel, markParcelK]
  | p :: r, k, i + 1, a, h => by
    simp only [List.getElem?_cons_succ] at h
    simp only [marksParcel, List.getElem?_cons_succ, List.take_succ_cons, markParcelK]
    exact marksParcel_get h
theorem markParcelK_take : ∀ {ws : List Parcel} {k : Int} {i : Nat} {a : Parcel}, ws[i]? = some a → markParcelK (ws.take (i + 1)) k = markParcelK (ws.take i) k + 6 + 7 * a.wants.length
  | [], _, _, _, h => by simp at h
  | p :: r, k, 0, a, h => by simp at h; subst h; simp [markParcelK]
  | p :: r, k, i + 1, a, h => by
    simp only [List.getElem?_cons_succ] at h
    simp only [List.take_succ_cons, markParcelK]
    exact markParcelK_take h
theorem markParcelK_le_all : ∀ (ws : List Parcel) (k : Int) (i : Nat), markParcelK (ws.take i) k ≤ markParcelK ws k
  | [], k, i => by simp [markParcelK]
  | p :: r, k, 0 => by simp only [List.take_zero]; exact le_markParcelK (p :: r) k
  | p :: r, k, i + 1 => by simp only [List.take_succ_cons, markParcelK]; exact markParcelK_le_all r _ i

def headMkParcel (ws done : List Parcel) (k : Int) (i : Nat) : St := hd [(0, .ref 0), (1, .int .i64 k), (5, .int .i64 i)] [.arr 7 (done.map (Parcel.c .own) ++ (ws.drop i).map (Parcel.c .own))] 1

def headHlParcel (xs : List Parcel) (k : Int) (i : Nat) : St := hd [(0, .sl .bor 7 (xs.map (Parcel.c .own))), (1, .int .i64 k), (5, .int .i64 i)] [] 0

def headEqParcel (m m' : Md) (ws : List Parcel) (i : Nat) : St := hd [(0, .sl .bor 7 (ws.map (Parcel.c m))), (1, .sl .bor 7 (ws.map (Parcel.c m'))), (5, .int .i64 i)] [] 0

end Go.Proofs.Ytojihfiloldkgaa
