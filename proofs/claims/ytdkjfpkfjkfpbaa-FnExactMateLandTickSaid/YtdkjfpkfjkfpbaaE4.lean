/- The laws' own helpers: marks on runs. -/
import Derived.Test.YtdkjfpkfjkfpbaaE3
namespace Go.Proofs.Ytdkjfpkfjkfpbaa
open Go
set_option linter.unusedSimpArgs false
set_option maxRecDepth 100000

def markRun (k : Int) : Run := ⟨⟨markText (k), up k, markText (up (up k)), up (up (up k)), up (up (up (up k))), up (up (up (up (up k)))), up (up (up (up (up (up k)))))⟩, up (up (up (up (up (up (up k)))))), up (up (up (up (up (up (up (up k))))))), up (up (up (up (up (up (up (up (up k)))))))), up (up (up (up (up (up (up (up (up (up k)))))))))⟩
def marksRun (n : Nat) (k : Int) : List Run := (List.range n).map fun i => markRun (it up11 i k)

def headMkRun (ws : List Run) (k : Int) (i : Nat) : St := hd [(0, .ref 0), (1, .int .i64 (it up11 i k)), (5, .int .i64 i)] [.arr 11 (mixU Run.c ws (marksRun ws.length k) i)] 1

def headHlRun (m : Md) (ws : List Run) (k : Int) (i : Nat) : St := hd [(0, .sl m 11 (ws.map Run.c)), (1, .int .i64 (it up11 i k)), (5, .int .i64 i)] [] 0

end Go.Proofs.Ytdkjfpkfjkfpbaa
