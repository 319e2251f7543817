/- The laws' own helpers: marks on mates. -/
import Derived.Test.YtojihfiloldkgaaE4
import Derived.Test.YtojihfiloldkgaaE6
namespace Go.Proofs.Ytojihfiloldkgaa
open Go
set_option linter.unusedSimpArgs false
set_option maxRecDepth 100000

def markWant (k : Int) : Want := ⟨markText (k), up k, markText (up (up k)), up (up (up k)), up (up (up (up k))), up (up (up (up (up k)))), up (up (up (up (up (up k)))))⟩
def marksWant (n : Nat) (k : Int) : List Want := (List.range n).map fun i => markWant (it up7 i k)

def headMkWant (ws : List Want) (k : Int) (i : Nat) : St := hd [(0, .ref 0), (1, .int .i64 (it up7 i k)), (5, .int .i64 i)] [.arr 7 (mixU Want.c ws (marksWant ws.length k) i)] 1

theorem law71 (ws : List Want) (k : Int) (h0 : 0 ≤ k) (hl : ws.length ≤ 1048576) (hk : k ≤ 10000000000000) : F 71 [.ref 0, .int .i64 k] [.arr 7 (ws.map Want.c)] = some (.int .i64 (k + 7 * ws.length), [some (.arr 7 ((marksWant ws.length k).map Want.c))]) := by
  refine F_run fn71 rfl ?_
  have hend := it_up7 h0 hk hl
  simp [c71]
  refine (loop_list ws (fun i (_ : Unit) => headMkWant ws k i) (fun _ _ => True) (fun _ _ _ => (.int .i64 (it up7 ws.length k), [some (.arr 7 ((marksWant ws.length k).map Want.c))])) (fun acc Y _ => ?_) (fun i a r acc Y ha hi hr _ hY => ?_) () ?_ trivial ?_).trans ?_
  · simp [headMkWant, c71b0, mixU_all, marksWant]
  · have hw : up (i : Int) = (i : Int) + 1 := up_is (by omega) (by omega)
    have hmx : ∀ j, j ≤ 11 → it up j (it up7 i k) ≤ 100000000000000 := it_up_le7 h0 hk (by omega)
    have hm0 : it up7 i k ≤ 100000000000000 := hmx 0 (by omega)
    have hm2 : up (up (it up7 i k)) ≤ 100000000000000 := hmx 2 (by omega)
    have hms : (marksWant ws.length k)[i]? = some (markWant (it up7 i k)) := by simp [marksWant, hi]
    have hln := mixU_len Want.c (ws := ws) (ms := marksWant ws.length k) (i := i) (by simp [marksWant]) (by omega)
    have hg := mixU_at Want.c (ms := marksWant ws.length k) ha (by simp [marksWant]) (by rw [hln]; exact hi)
    have hs := mixU_set Want.c (ws := ws) hms (by simp [marksWant])
    simp only [Want.c] at hg
    simp [Want.c, markWant] at hs
    simp [headMkWant, c71b0, hi, hln, hg, up_fold, law96, hm0, hm2]
    rw [hY () _ trivial]
    simp [headMkWant, hw, hs, it, up7]
  · simp [headMkWant, mixU_zero, it]
  · unfold big; omega
  · rw [hend]

def headHlWant (m : Md) (ws : List Want) (k : Int) (i : Nat) : St := hd [(0, .sl m 7 (ws.map Want.c)), (1, .int .i64 (it up7 i k)), (5, .int .i64 i)] [] 0

theorem law127 (n : Nat) (k : Int) (h0 : 0 ≤ k) (hl : n ≤ 1048576) (hk : k ≤ 10000000000000) : F 127 [.sl .bor 7 ((marksWant n k).map Want.c), .int .i64 k] [] = some (.int .i64 (k + 7 * n), []) := by
  refine F_run fn127 rfl ?_
  have hend := it_up7 h0 hk hl
  have hln : (marksWant n k).length = n := by simp [marksWant]
  simp [c127]
  refine (loop_list (marksWant n k) (fun i (_ : Unit) => headHlWant .bor (marksWant n k) k i) (fun _ _ => True) (fun _ _ _ => (.int .i64 (it up7 n k), [])) (fun acc Y _ => ?_) (fun i a r acc Y ha hi hr _ hY => ?_) () ?_ trivial ?_).trans ?_
  · rw [hln]
    simp [headHlWant, c127b0, hln]
  · rw [hln] at hi
    have hw : up (i : Int) = (i : Int) + 1 := up_is (by omega) (by omega)
    have hmx : ∀ j, j ≤ 11 → it up j (it up7 i k) ≤ 100000000000000 := it_up_le7 h0 hk (by omega)
    have hm0 : it up7 i k ≤ 100000000000000 := hmx 0 (by omega)
    have hm2 : up (up (it up7 i k)) ≤ 100000000000000 := hmx 2 (by omega)
    obtain ⟨hi2, hg⟩ := List.getElem?_eq_some_iff.1 ha
    have hms : (marksWant n k)[i]? = some (markWant (it up7 i k)) := by simp [marksWant, hi]
    rw [ha] at hms
    obtain rfl := Option.some.inj hms
    simp [headHlWant, c127b0, hi, hln, hg, up_fold, law96, markWant, hm0, hm2]
    rw [hY () _ trivial]
    simp [headHlWant, hw, it, up7]
  · simp [headHlWant, it]
  · rw [hln]; unfold big; omega
  · rw [hend]


def markAsk (k : Int) : Ask := ⟨markText (k), markText (up k), up (up k), up (up (up k))⟩
def marksAsk (n : Nat) (k : Int) : List Ask := (List.range n).map fun i => markAsk (it up4 i k)

def headMkAsk (ws : List Ask) (k : Int) (i : Nat) : St := hd [(0, .ref 0), (1, .int .i64 (it up4 i k)), (5, .int .i64 i)] [.arr 4 (mixU Ask.c ws (marksAsk ws.length k) i)] 1

theorem law128 (ws : List Ask) (k : Int) (h0 : 0 ≤ k) (hl : ws.length ≤ 1048576) (hk : k ≤ 10000000000000) : F 128 [.ref 0, .int .i64 k] [.arr 4 (ws.map Ask.c)] = some (.int .i64 (k + 4 * ws.length), [some (.arr 4 ((marksAsk ws.length k).map Ask.c))]) := by
  refine F_run fn128 rfl ?_
  have hend := it_up4 h0 hk hl
  simp [c128]
  refine (loop_list ws (fun i (_ : Unit) => headMkAsk ws k i) (fun _ _ => True) (fun _ _ _ => (.int .i64 (it up4 ws.length k), [some (.arr 4 ((marksAsk ws.length k).map Ask.c))])) (fun acc Y _ => ?_) (fun i a r acc Y ha hi hr _ hY => ?_) () ?_ trivial ?_).trans ?_
  · simp [headMkAsk, c128b0, mixU_all, marksAsk]
  · have hw : up (i : Int) = (i : Int) + 1 := up_is (by omega) (by omega)
    have hmx : ∀ j, j ≤ 11 → it up j (it up4 i k) ≤ 100000000000000 := it_up_le4 h0 hk (by omega)
    have hm0 : it up4 i k ≤ 100000000000000 := hmx 0 (by omega)
    have hm1 : up (it up4 i k) ≤ 100000000000000 := hmx 1 (by omega)
    have hms : (marksAsk ws.length k)[i]? = some (markAsk (it up4 i k)) := by simp [marksAsk, hi]
    have hln := mixU_len Ask.c (ws := ws) (ms := marksAsk ws.length k) (i := i) (by simp [marksAsk]) (by omega)
    have hg := mixU_at Ask.c (ms := marksAsk ws.length k) ha (by simp [marksAsk]) (by rw [hln]; exact hi)
    have hs := mixU_set Ask.c (ws := ws) hms (by simp [marksAsk])
    simp only [Ask.c] at hg
    simp [Ask.c, markAsk] at hs
    simp [headMkAsk, c128b0, hi, hln, hg, up_fold, law96, hm0, hm1]
    rw [hY () _ trivial]
    simp [headMkAsk, hw, hs, it, up4]
  · simp [headMkAsk, mixU_zero, it]
  · unfold big; omega
  · rw [hend]

def headHlAsk (m : Md) (ws : List Ask) (k : Int) (i : Nat) : St := hd [(0, .sl m 4 (ws.map Ask.c)), (1, .int .i64 (it up4 i k)), (5, .int .i64 i)] [] 0

theorem law129 (n : Nat) (k : Int) (h0 : 0 ≤ k) (hl : n ≤ 1048576) (hk : k ≤ 10000000000000) : F 129 [.sl .bor 4 ((marksAsk n k).map Ask.c), .int .i64 k] [] = some (.int .i64 (k + 4 * n), []) := by
  refine F_run fn129 rfl ?_
  have hend := it_up4 h0 hk hl
  have hln : (marksAsk n k).length = n := by simp [marksAsk]
  simp [c129]
  refine (loop_list (marksAsk n k) (fun i (_ : Unit) => headHlAsk .bor (marksAsk n k) k i) (fun _ _ => True) (fun _ _ _ => (.int .i64 (it up4 n k), [])) (fun acc Y _ => ?_) (fun i a r acc Y ha hi hr _ hY => ?_) () ?_ trivial ?_).trans ?_
  · rw [hln]
    simp [headHlAsk, c129b0, hln]
  · rw [hln] at hi
    have hw : up (i : Int) = (i : Int) + 1 := up_is (by omega) (by omega)
    have hmx : ∀ j, j ≤ 11 → it up j (it up4 i k) ≤ 100000000000000 := it_up_le4 h0 hk (by omega)
    have hm0 : it up4 i k ≤ 100000000000000 := hmx 0 (by omega)
    have hm1 : up (it up4 i k) ≤ 100000000000000 := hmx 1 (by omega)
    obtain ⟨hi2, hg⟩ := List.getElem?_eq_some_iff.1 ha
    have hms : (marksAsk n k)[i]? = some (markAsk (it up4 i k)) := by simp [marksAsk, hi]
    rw [ha] at hms
    obtain rfl := Option.some.inj hms
    simp [headHlAsk, c129b0, hi, hln, hg, up_fold, law96, markAsk, hm0, hm1]
    rw [hY () _ trivial]
    simp [headHlAsk, hw, it, up4]
  · simp [headHlAsk, it]
  · rw [hln]; unfold big; omega
  · rw [hend]


def markMate (m : Mate) (k : Int) : Mate :=
  { m with
    wants := marksWant m.wants.length k
    runs := marksRun m.runs.length (k + 7 * m.wants.length)
    asks := marksAsk m.asks.length (k + 7 * m.wants.length + 11 * m.runs.length)
    gives := marksAsk m.gives.length (k + 7 * m.wants.length + 11 * m.runs.length + 4 * m.asks.length) }
def markMateK (m : Mate) (k : Int) : Int := k + 7 * m.wants.length + 11 * m.runs.length + 4 * m.asks.length + 4 * m.gives.length

/-- A mate's cells, its lists being the arrays from n on. -/
def Mate.refs (n : Nat) (x : Mate) : List AV := [.str x.name, .bool x.up, .int .i64 x.clock, .bool x.known, .int .i64 x.seen, .ref n, .ref (n + 1), .ref (n + 2), .ref (n + 3)]
def Mate.arrs (x : Mate) : List AO := [.arr 7 (x.wants.map Want.c), .arr 11 (x.runs.map Run.c), .arr 4 (x.asks.map Ask.c), .arr 4 (x.gives.map Ask.c)]

theorem markMateK_pos {m : Mate} {k : Int} (h : 0 ≤ k) : ¬ (markMateK m k < 0) := by unfold markMateK; omega
end Go.Proofs.Ytojihfiloldkgaa
