/- Layer 8: is a world safe? -/
import Derived.Test.YtkidibombhdbeaaA8
import Derived.Test.YtkidibombhdbeaaA2
namespace Go.Proofs.Ytkidibombhdbeaa
open Go
set_option linter.unusedSimpArgs false
set_option maxRecDepth 100000

def isIn (held : List T) (k : T) : Bool := held.any fun x => sEq x k
def safeGo (held : List T) : List Run → Bool
  | [] => true
  | r :: rs => if alive r && !sEq r.want.hold ⟨#[]⟩ then (if isIn held r.want.hold then false else safeGo (held ++ [r.want.hold]) rs) else safeGo held rs
def safe (w : Wld) : Bool := worldOk w && safeGo [] (w.mates.flatMap Mate.runs)

def mapT (held : List T) : List (ByteArray × AV) := held.foldl (fun m k => mapPut k (.bool true) m) []
@[simp] theorem mapT_get (held : List T) (k : T) : (mapGet k (mapT held)).getD (.bool false) = .bool (isIn held k) := by
  have h : ∀ (l : List T) (m : List (ByteArray × AV)) (b : Bool), (mapGet k m).getD (.bool false) = .bool b → (mapGet k (l.foldl (fun m k => mapPut k (.bool true) m) m)).getD (.bool false) = .bool (b || l.any fun x => sEq x k) := by
    intro l
    induction l with
    | nil => intro m b h; simpa using h
    | cons w l ih =>
      intro m b h
      rw [List.foldl_cons, ih _ (b || sEq w k)]
      · simp [Bool.or_assoc]
      · rw [mapGet_put, sEq_comm w k]
        by_cases h2 : sEq k w = true
        · simp [h2]
        · simp [h2, h]
  have := h held [] false rfl
  rw [Bool.false_or] at this
  exact this
theorem mapT_snoc (held : List T) (k : T) : mapT (held ++ [k]) = mapPut k (.bool true) (mapT held) := by simp [mapT]

def head66m (w : Wld) (mm : Md) (i : Nat) (held : List T) : St := hd [(3, .mapr 0), (14, .sl .bor 9 (w.mates.map (Mate.c mm))), (15, .int .i64 w.mates.length), (16, .int .i64 i)] [.map (mapT held)] 0
def head66r (w : Wld) (mm : Md) (i : Nat) (rs : List Run) (j : Nat) (held : List T) : St := hd [(3, .mapr 0), (14, .sl .bor 9 (w.mates.map (Mate.c mm))), (15, .int .i64 w.mates.length), (16, .int .i64 i), (21, .sl .bor 11 (rs.map Run.c)), (22, .int .i64 rs.length), (23, .int .i64 j)] [.map (mapT held)] 0

theorem law66 (w : Wld) (mm : Md) (hw : w.small) : F 66 [.agg (w.c .bor mm)] [] = some (.bool (safe w), []) := by
  refine F_run fn66 rfl ?_
  have w1 := law57 w mm hw
  simp only [Wld.c] at w1
  have hl := hw.mates
  simp [c66, safe, w1]
  cases q1 : worldOk w <;> simp
  refine (loop_list w.mates (fun i (held : List T) => head66m w mm i held) (fun _ _ => True) (fun _ r held => (.bool (safeGo held (r.flatMap Mate.runs)), [])) (fun held Y _ => ?_) (fun i a r held Y ha hi hr _ hY => ?_) [] ?_ trivial ?_).trans rfl
  · simp [head66m, c66b1, safeGo]
  · have hw1 : IntKind.i64.wrap ((i : Int) + 1) = (i : Int) + 1 := i64w (by omega) (by omega)
    obtain ⟨_, hg⟩ := List.getElem?_eq_some_iff.1 ha
    have hrs := (hw.each a (List.mem_of_getElem? ha)).runs
    simp [head66m, c66b1, hg, hi]
    refine (loop_list a.runs (fun j (held : List T) => head66r w mm i a.runs j held) (fun _ _ => True) (fun _ t held => (.bool (safeGo held (t ++ r.flatMap Mate.runs)), [])) (fun held Z _ => ?_) (fun j b t held Z hb hj ht _ hZ => ?_) held ?_ trivial ?_).trans rfl
    · simp [head66r, c66b0]
      rw [hY held _ trivial (by simp [head66m, hw1])]
    · have hwj : IntKind.i64.wrap ((j : Int) + 1) = (j : Int) + 1 := i64w (by omega) (by omega)
      obtain ⟨_, hgb⟩ := List.getElem?_eq_some_iff.1 hb
      simp only [List.cons_append, safeGo, alive]
      simp [head66r, c66b0, hgb, hj]
      cases q2 : sEq b.want.hold ⟨#[]⟩ <;> simp
      · cases q3 : aliveS b.state <;> simp
        · exact hZ held _ trivial (by simp [head66r, hwj])
        · cases q4 : isIn held b.want.hold <;> simp
          exact hZ (held ++ [b.want.hold]) _ trivial (by simp [head66r, hwj, mapT_snoc])
      · exact hZ held _ trivial (by simp [head66r, hwj])
    · simp [head66r]
    · unfold big; omega
  · simp [head66m, mapT]
  · unfold big; omega

structure Cap (K i j n : Nat) : Prop where
  le : n ≤ i * K + j

def textRows (held : List T) : List (List AV) := held.map fun s => [.str s]
def head67m (w : Wld) (mm : Md) (i : Nat) (held : List T) : St := hd [(1, .ptr 0 0 0), (3, .ref 1), (4, .int .i64 i)] [.box (w.c .bor mm), .arr 1 (textRows held)] 0
def head67r (w : Wld) (mm : Md) (i j : Nat) (held : List T) : St := hd [(1, .ptr 0 0 0), (3, .ref 1), (4, .int .i64 i), (5, .int .i64 j)] [.box (w.c .bor mm), .arr 1 (textRows held)] 0
def head67k (w : Wld) (mm : Md) (i j : Nat) (held : List T) (r : Run) (k : Nat) : St := hd [(1, .ptr 0 0 0), (3, .ref 1), (4, .int .i64 i), (5, .int .i64 j), (6, .ptr 2 0 0), (7, .int .i64 k)] [.box (w.c .bor mm), .arr 1 (textRows held), .box r.c] 0

theorem law67 (w : Wld) (mm : Md) (hw : w.small) : F 67 [.agg (w.c .bor mm)] [] = some (.bool (safe w), []) := by
  refine F_run fn67 rfl ?_
  have w1 := law58 w mm hw
  simp only [Wld.c] at w1
  have hl := hw.mates
  obtain ⟨K, hK⟩ : ∃ K : Nat, K = 1048576 := ⟨_, rfl⟩
  simp [c67, safe, w1]
  cases q1 : worldOk w <;> simp
  refine (loop_list w.mates (fun i (held : List T) => head67m w mm i held) (fun i held => Cap K i 0 held.length) (fun _ r held => (.bool (safeGo held (r.flatMap Mate.runs)), [])) (fun held Y _ => ?_) (fun i a r held Y ha hi hr hinv hY => ?_) [] ?_ ⟨Nat.zero_le _⟩ ?_).trans rfl
  · simp [head67m, c67b2, safeGo]
  · have hw1 : IntKind.i64.wrap ((i : Int) + 1) = (i : Int) + 1 := i64w (by omega) (by omega)
    obtain ⟨_, hg⟩ := List.getElem?_eq_some_iff.1 ha
    have hrs := (hw.each a (List.mem_of_getElem? ha)).runs
    simp [head67m, c67b2, hi]
    refine (loop_list a.runs (fun j (held : List T) => head67r w mm i j held) (fun j held => Cap K i j held.length) (fun _ t held => (.bool (safeGo held (t ++ r.flatMap Mate.runs)), [])) (fun held Z hinv => ?_) (fun j b t held Z hb hj ht hinv hZ => ?_) held ?_ hinv ?_).trans rfl
    · simp [head67r, c67b1, hi, hg]
      rw [hY held _ ⟨by have := hinv.le; have e : (i + 1) * K = i * K + K := Nat.succ_mul i K; omega⟩ (by simp [head67m, hw1])]
    · have hwj : IntKind.i64.wrap ((j : Int) + 1) = (j : Int) + 1 := i64w (by omega) (by omega)
      obtain ⟨_, hgb⟩ := List.getElem?_eq_some_iff.1 hb
      have hinv := hinv.le
      have hb3 : (held.length + 1) * 16 ≤ 140737488355328 := by
        have h9 : i * K ≤ 1048576 * K := Nat.mul_le_mul_right _ (by omega)
        omega
      have hb4 : held.length + 1 ≤ 140737488355328 := by
        have h9 : i * K ≤ 1048576 * K := Nat.mul_le_mul_right _ (by omega)
        omega
      simp only [List.cons_append, safeGo, alive]
      simp [head67r, c67b1, hi, hg, hj, hgb]
      cases q3 : aliveS b.state <;> simp
      · exact hZ held _ ⟨by omega⟩ (by simp [head67r, hwj])
      cases q2 : sEq b.want.hold ⟨#[]⟩ <;> simp
      · refine (loop_list held (fun k (_ : Unit) => head67k w mm i j held b k) (fun _ _ => True) (fun _ u _ => (.bool (!isIn u b.want.hold && safeGo (held ++ [b.want.hold]) (t ++ r.flatMap Mate.runs)), [])) (fun acc V _ => ?_) (fun k x u acc V hx hk hu _ hV => ?_) () ?_ trivial ?_).trans rfl
        · simp [head67k, c67b0, textRows, takeRows, rowsPlain, hb3, hb4, isIn]
          exact hZ (held ++ [b.want.hold]) _ ⟨by simp; omega⟩ (by simp [head67r, hwj, textRows])
        · have hwk : IntKind.i64.wrap ((k : Int) + 1) = (k : Int) + 1 := i64w (by omega) (by omega)
          obtain ⟨_, hgx⟩ := List.getElem?_eq_some_iff.1 hx
          simp only [isIn, List.any_cons]
          simp [head67k, c67b0, textRows, hk, hgx]
          cases q5 : sEq x b.want.hold <;> simp
          exact (hV () _ trivial (by simp [head67k, hwk, textRows])).trans (by simp [isIn])
        · simp [head67k, textRows]
        · unfold big; omega
      · exact hZ held _ ⟨by omega⟩ (by simp [head67r, hwj])
    · simp [head67r]
    · unfold big; omega
  · simp [head67m, textRows]
  · unfold big; omega
end Go.Proofs.Ytkidibombhdbeaa
