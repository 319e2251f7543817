/- The laws' own helpers: marks on runs. -/
import Derived.Test.YtojihfiloldkgaaE3
namespace Go.Proofs.Ytojihfiloldkgaa
open Go
set_option linter.unusedSimpArgs false
set_option maxRecDepth 100000

def markRun (k : Int) : Run := ⟨⟨markText (k), up k, markText (up (up k)), up (up (up k)), up (up (up (up k))), up (up (up (up (up k)))), up (up (up (up (up (up k)))))⟩, up (up (up (up (up (up (up k)))))), up (up (up (up (up (up (up (up k))))))), up (up (up (up (up (up (up (up (up k)))))))), up (up (up (up (up (up (up (up (up (up k)))))))))⟩
def marksRun (n : Nat) (k : Int) : List Run := (List.range n).map fun i => markRun (it up11 i k)

def headMkRun (ws : List Run) (k : Int) (i : Nat) : St := hd [(0, .ref 0), (1, .int .i64 (it up11 i k)), (5, .int .i64 i)] [.arr 11 (mixU Run.c ws (marksRun ws.length k) i)] 1

theorem law19 (ws : List Run) (k : Int) (h0 : 0 ≤ k) (hl : ws.length ≤ 1048576) (hk : k ≤ 10000000000000) : F 19 [.ref 0, .int .i64 k] [.arr 11 (ws.map Run.c)] = some (.int .i64 (k + 11 * ws.length), [some (.arr 11 ((marksRun ws.length k).map Run.c))]) := by
  refine F_run fn19 rfl ?_
  have hend := it_up11 h0 hk hl
  simp [c19]
  refine (loop_list ws (fun i (_ : Unit) => headMkRun ws k i) (fun _ _ => True) (fun _ _ _ => (.int .i64 (it up11 ws.length k), [some (.arr 11 ((marksRun ws.length k).map Run.c))])) (fun acc Y _ => ?_) (fun i a r acc Y ha hi hr _ hY => ?_) () ?_ trivial ?_).trans ?_
  · simp [headMkRun, c19b0, mixU_all, marksRun]
  · have hw : up (i : Int) = (i : Int) + 1 := up_is (by omega) (by omega)
    have hmx : ∀ j, j ≤ 11 → it up j (it up11 i k) ≤ 100000000000000 := it_up_le11 h0 hk (by omega)
    have hm0 : it up11 i k ≤ 100000000000000 := hmx 0 (by omega)
    have hm2 : up (up (it up11 i k)) ≤ 100000000000000 := hmx 2 (by omega)
    have hms : (marksRun ws.length k)[i]? = some (markRun (it up11 i k)) := by simp [marksRun, hi]
    have hln := mixU_len Run.c (ws := ws) (ms := marksRun ws.length k) (i := i) (by simp [marksRun]) (by omega)
    have hg := mixU_at Run.c (ms := marksRun ws.length k) ha (by simp [marksRun]) (by rw [hln]; exact hi)
    have hs := mixU_set Run.c (ws := ws) hms (by simp [marksRun])
    simp only [Run.c] at hg
    simp [Run.c, markRun] at hs
    simp [headMkRun, c19b0, hi, hln, hg, up_fold, law96, hm0, hm2]
    rw [hY () _ trivial]
    simp [headMkRun, hw, hs, it, up11]
  · simp [headMkRun, mixU_zero, it]
  · unfold big; omega
  · rw [hend]

def headHlRun (m : Md) (ws : List Run) (k : Int) (i : Nat) : St := hd [(0, .sl m 11 (ws.map Run.c)), (1, .int .i64 (it up11 i k)), (5, .int .i64 i)] [] 0

theorem law17 (n : Nat) (k : Int) (h0 : 0 ≤ k) (hl : n ≤ 1048576) (hk : k ≤ 10000000000000) : F 17 [.sl .bor 11 ((marksRun n k).map Run.c), .int .i64 k] [] = some (.int .i64 (k + 11 * n), []) := by
  refine F_run fn17 rfl ?_
  have hend := it_up11 h0 hk hl
  have hln : (marksRun n k).length = n := by simp [marksRun]
  simp [c17]
  refine (loop_list (marksRun n k) (fun i (_ : Unit) => headHlRun .bor (marksRun n k) k i) (fun _ _ => True) (fun _ _ _ => (.int .i64 (it up11 n k), [])) (fun acc Y _ => ?_) (fun i a r acc Y ha hi hr _ hY => ?_) () ?_ trivial ?_).trans ?_
  · rw [hln]
    simp [headHlRun, c17b0, hln]
  · rw [hln] at hi
    have hw : up (i : Int) = (i : Int) + 1 := up_is (by omega) (by omega)
    have hmx : ∀ j, j ≤ 11 → it up j (it up11 i k) ≤ 100000000000000 := it_up_le11 h0 hk (by omega)
    have hm0 : it up11 i k ≤ 100000000000000 := hmx 0 (by omega)
    have hm2 : up (up (it up11 i k)) ≤ 100000000000000 := hmx 2 (by omega)
    obtain ⟨hi2, hg⟩ := List.getElem?_eq_some_iff.1 ha
    have hms : (marksRun n k)[i]? = some (markRun (it up11 i k)) := by simp [marksRun, hi]
    rw [ha] at hms
    obtain rfl := Option.some.inj hms
    simp [headHlRun, c17b0, hi, hln, hg, up_fold, law96, markRun, hm0, hm2]
    rw [hY () _ trivial]
    simp [headHlRun, hw, it, up11]
  · simp [headHlRun, it]
  · rw [hln]; unfold big; omega
  · rw [hend]

end Go.Proofs.Ytojihfiloldkgaa
