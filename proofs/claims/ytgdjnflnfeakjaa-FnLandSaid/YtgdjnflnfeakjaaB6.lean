/- impl.MateRead: its law. · A parcel's text, read: the reference's way and the program's come to the same. · The laws' own equalities, at one thing and itself. · Draws: parcels, their texts, wants and runs. · Layer 6: the book's copy and its tick. · Ordered lists: an element put in its place; what sorting does to a list and one more. · The laws' own helpers, on books. · The laws' own helpers: marks on books and on lists of parcels. · Layer 6: what a berth is to run is put into the book. · The book: what a berth wants, who holds what (spec.l6Grant, spec.l6Wants, impl.wantOf). · The book takes an ask (spec.l6Asked, spec.MateLandTake). · The book takes a parcel (spec.MateLandTake). · The book takes a parcel (impl.MateLandTake). · FnExactMatePut: the plain law. · Draws: a book (spec.l6Draw). · Draws: a book that is spoilt. -/
import Derived.Test.YtgdjnflnfeakjaaB5
import Derived.IntWalk
namespace Go.Proofs.Ytgdjnflnfeakjaa
open Go
set_option linter.unusedSimpArgs false
set_option maxRecDepth 100000
def tl207 : CCode := (.seq (.seq (.region [
    ⟨some 189, .load (.tmp 7) 7 true .plain, none⟩,
    ⟨some 190, .call 218 [false] [.tmp 189], none⟩,
    ⟨some 191, .mov (.tmp 0), none⟩,
    ⟨some 192, .bin .neq (.tmp 190) (.tmp 191), none⟩] [2, 7, 192])
  (.cond (.tmp 192)
    (.seq (.region [
      ⟨some 193, .build [.int .i64 0, .str ⟨#[]⟩, .int .i64 0, .sl .own 7 [], .str ⟨#[]⟩, .str ⟨#[]⟩, .int .i64 0] [], none⟩,
      ⟨none, .store (.tmp 2) (.tmp 193) 7, none⟩,
      ⟨some 3, .mov (.const (.bool false)), none⟩] [2, 3])
    .ret)
    .skip))
  (.seq (.region [
    ⟨some 194, .load (.tmp 7) 7 true .plain, none⟩,
    ⟨none, .store (.tmp 2) (.tmp 194) 7, none⟩,
    ⟨some 3, .mov (.const (.bool true)), none⟩] [2, 3])
  .ret))
theorem index_cons (x b : UInt8) (r : List UInt8) : Lib.index (x :: r) [b] = if x = b then 0 else if Lib.index r [b] = -1 then -1 else Lib.index r [b] + 1 := by
  rw [Lib.index]
  have e : [b].isPrefixOf (x :: r) = (b == x) := by rw [List.isPrefixOf_cons_cons]; rw [List.isPrefixOf_nil_left, Bool.and_true]
  rw [e]
  by_cases h : x = b
  · rw [if_pos (beq_iff_eq.2 h.symm), if_pos h]
  · rw [if_neg (fun k => h (beq_iff_eq.1 k).symm), if_neg h]
    by_cases k : Lib.index r [b] = -1
    · rw [if_pos (beq_iff_eq.2 k), if_pos k]
    · rw [if_neg (fun q => k (beq_iff_eq.1 q)), if_neg k]
theorem notmem {b x : UInt8} {r : List UInt8} (h : ¬ b ∈ x :: r) : ¬ x = b ∧ ¬ b ∈ r := ⟨fun e => h (by rw [e]; exact List.mem_cons_self), fun k => h (List.mem_cons_of_mem _ k)⟩
theorem index_no {b : UInt8} : ∀ {l : List UInt8}, ¬ b ∈ l → Lib.index l [b] = -1
  | [], _ => rfl
  | x :: r, h => by
    rw [index_cons, if_neg (notmem h).1, index_no (notmem h).2]
    rfl
theorem index_at {b : UInt8} : ∀ {u v : List UInt8}, ¬ b ∈ u → Lib.index (u ++ b :: v) [b] = u.length
  | [], v, _ => by rw [List.nil_append, index_cons, if_pos rfl]; rfl
  | x :: u, v, h => by
    rw [List.cons_append, index_cons, if_neg (notmem h).1, index_at (notmem h).2, if_neg (by omega)]
    rfl
theorem cutA_no {b : UInt8} : ∀ {l : List UInt8} (pre : List UInt8), ¬ b ∈ l → cutA b pre l = [pre ++ l]
  | [], pre, _ => by simp [cutA]
  | x :: r, pre, h => by
    rw [cutA, if_neg (notmem h).1, cutA_no _ (notmem h).2]
    simp
theorem cutA_at {b : UInt8} : ∀ {u v : List UInt8} (pre : List UInt8), ¬ b ∈ u → cutA b pre (u ++ b :: v) = (pre ++ u) :: cutA b [] v
  | [], v, pre, _ => by simp [cutA]
  | x :: u, v, pre, h => by
    rw [List.cons_append, cutA, if_neg (notmem h).1, cutA_at _ (notmem h).2]
    simp
theorem splitK_cut (b : UInt8) : ∀ (n : Nat) (l : List UInt8), l.length ≤ n → Lib.splitK [b] 0 (Lib.count l [b]) l = cutA b [] l
  | n, l, hn => by
    by_cases h : b ∈ l
    · obtain ⟨u, v, rfl, hu⟩ := List.eq_append_cons_of_mem h
      match n with
      | 0 => simp at hn
      | n + 1 =>
        have hi := index_at (v := v) hu
        have hd : (u ++ b :: v).drop (u.length + [b].length) = v := by
          rw [show u ++ b :: v = (u ++ [b]) ++ v by simp, List.drop_left' (by simp)]
        have hc := Lib.count_hit (by simp) hi
        rw [hd] at hc
        rw [hc, Nat.add_comm, Lib.splitK, hi, if_neg (by simp), cutA_at _ hu]
        rw [show ((u.length : Int).toNat + [b].length) = u.length + [b].length from rfl, hd, splitK_cut b n v (by simp at hn; omega)]
        simp
    · rw [Lib.count_miss (index_no h), cutA_no _ h]
      rfl
theorem splitT_cut (s : T) (b : UInt8) : splitT s ⟨#[b]⟩ = cutT s b := by
  have h := Lib.splitB_data ⟨#[b]⟩ 0 (Lib.countB s ⟨#[b]⟩) s
  have h2 := splitK_cut b _ s.data.toList (Nat.le_refl _)
  have h3 : (splitT s ⟨#[b]⟩).map (·.data.toList) = cutA b [] s.data.toList := h.trans h2
  rw [cutT, ← h3, List.map_map]
  have e : (mkT ∘ fun x : ByteArray => x.data.toList) = id := by
    funext x
    rfl
  rw [e, List.map_id]

/-- A line's want, as the program reads it. -/
def wantI (x : List T) : Want := ⟨atW x 1, numT (atW x 2), unstar (atW x 3), numT (atW x 4), numT (atW x 5), numT (atW x 6), numT (atW x 7)⟩
def lineOk (x : List T) : Bool := x.length == 8 && sEq (atW x 0) ⟨#[119, 97, 110, 116]⟩
def linesI (acc : List Want) : List T → Option (List Want)
  | [] => some acc
  | l :: r => if lineOk (cutT l 32) then linesI (acc ++ [wantI (cutT l 32)]) r else none
def wordsI (w : T) (ws ls : List T) : Option Parcel :=
  if sEq w ⟨#[116, 111, 108, 100]⟩ && ws.length == 3 then (match linesI [] ls with
    | some wants => some ⟨1, atW ws 1, numT (atW ws 2), wants, ⟨#[]⟩, ⟨#[]⟩, 0⟩
    | none => none)
  else if ws.length == 5 && isAsk w then some ⟨readKind w, atW ws 1, 0, [], atW ws 2, atW ws 3, numT (atW ws 4)⟩
  else if sEq w ⟨#[103, 111, 116, 98, 97, 99, 107]⟩ && ws.length == 4 then some ⟨5, atW ws 1, 0, [], atW ws 2, ⟨#[]⟩, numT (atW ws 3)⟩
  else if sEq w ⟨#[104, 101, 114, 101]⟩ && ws.length == 3 then some ⟨6, atW ws 1, numT (atW ws 2), [], ⟨#[]⟩, ⟨#[]⟩, 0⟩
  else some noParcel
def outI (s : T) : Option Parcel → Parcel × Bool
  | some p => if sEq (parcelForm p) s then (p, true) else (noParcel, false)
  | none => (noParcel, false)
def readI (s : T) : Parcel × Bool :=
  if Lib.hasSuffix s.data.toList [10] then outI s (wordsI (atW (cutT (atW (cutT (s.extract 0 (s.size - 1)) 10) 0) 32) 0) (cutT (atW (cutT (s.extract 0 (s.size - 1)) 10) 0) 32) (cutT (s.extract 0 (s.size - 1)) 10).tail) else (noParcel, false)

def partI (b : T) (n : Int) (ws : List Want) : Parcel := ⟨1, b, n, ws, ⟨#[]⟩, ⟨#[]⟩, 0⟩
def resR (r : Parcel × Bool) : AV × List (Option AO) := (.tup [.agg (r.1.c .own), .bool r.2], [])
def head207 (s l0 : T) (ls : List T) (b : T) (n : Int) (j : Nat) (acc : List Want) : St := hd [(0, .str s), (2, .ptr 0 0 0), (6, .fn 221), (7, .ptr 1 0 0), (46, .view 2 1 ls.length), (47, .int .i64 ls.length), (48, .int .i64 j)]
  ([.box [.int .i64 0, .str ⟨#[]⟩, .int .i64 0, .sl .own 7 [], .str ⟨#[]⟩, .str ⟨#[]⟩, .int .i64 0], .box [.int .i64 1, .str b, .int .i64 n, wantsV acc, .str ⟨#[]⟩, .str ⟨#[]⟩, .int .i64 0], .arr 1 ((l0 :: ls).map fun x => [.str x])] ++ wantsH acc) 0

theorem suffix_last {l : List UInt8} (h : Lib.hasSuffix l [10] = true) : 1 ≤ l.length := by
  cases l with
  | nil => cases h
  | cons a l => simp

/-- The words of a line, and where they are. -/
structure Words (w : T) (a : Bool) (b : Bool) (c : Bool) (d : Bool) (e : Bool) (f : Bool) : Prop where
  told : sEq w ⟨#[116, 111, 108, 100]⟩ = a
  asked : sEq w ⟨#[97, 115, 107, 101, 100]⟩ = b
  given : sEq w ⟨#[103, 105, 118, 101, 110]⟩ = c
  back : sEq w ⟨#[98, 97, 99, 107]⟩ = d
  gotback : sEq w ⟨#[103, 111, 116, 98, 97, 99, 107]⟩ = e
  here : sEq w ⟨#[104, 101, 114, 101]⟩ = f
theorem words_any (w : T) : Words w true false false false false false ∨ Words w false true false false false false ∨ Words w false false true false false false ∨ Words w false false false true false false ∨ Words w false false false false true false ∨ Words w false false false false false true ∨ Words w false false false false false false := by
  by_cases h0 : w = ⟨#[116, 111, 108, 100]⟩
  · subst h0
    exact .inl ⟨(sEq_iff _ _).2 rfl, sEq_ne (by intro e; cases e), sEq_ne (by intro e; cases e), sEq_ne (by intro e; cases e), sEq_ne (by intro e; cases e), sEq_ne (by intro e; cases e)⟩
  by_cases h1 : w = ⟨#[97, 115, 107, 101, 100]⟩
  · subst h1
    exact .inr (.inl ⟨sEq_ne (by intro e; cases e), (sEq_iff _ _).2 rfl, sEq_ne (by intro e; cases e), sEq_ne (by intro e; cases e), sEq_ne (by intro e; cases e), sEq_ne (by intro e; cases e)⟩)
  by_cases h2 : w = ⟨#[103, 105, 118, 101, 110]⟩
  · subst h2
    exact .inr (.inr (.inl ⟨sEq_ne (by intro e; cases e), sEq_ne (by intro e; cases e), (sEq_iff _ _).2 rfl, sEq_ne (by intro e; cases e), sEq_ne (by intro e; cases e), sEq_ne (by intro e; cases e)⟩))
  by_cases h3 : w = ⟨#[98, 97, 99, 107]⟩
  · subst h3
    exact .inr (.inr (.inr (.inl ⟨sEq_ne (by intro e; cases e), sEq_ne (by intro e; cases e), sEq_ne (by intro e; cases e), (sEq_iff _ _).2 rfl, sEq_ne (by intro e; cases e), sEq_ne (by intro e; cases e)⟩)))
  by_cases h4 : w = ⟨#[103, 111, 116, 98, 97, 99, 107]⟩
  · subst h4
    exact .inr (.inr (.inr (.inr (.inl ⟨sEq_ne (by intro e; cases e), sEq_ne (by intro e; cases e), sEq_ne (by intro e; cases e), sEq_ne (by intro e; cases e), (sEq_iff _ _).2 rfl, sEq_ne (by intro e; cases e)⟩))))
  by_cases h5 : w = ⟨#[104, 101, 114, 101]⟩
  · subst h5
    exact .inr (.inr (.inr (.inr (.inr (.inl ⟨sEq_ne (by intro e; cases e), sEq_ne (by intro e; cases e), sEq_ne (by intro e; cases e), sEq_ne (by intro e; cases e), sEq_ne (by intro e; cases e), (sEq_iff _ _).2 rfl⟩)))))
  exact .inr (.inr (.inr (.inr (.inr (.inr (⟨sEq_ne h0, sEq_ne h1, sEq_ne h2, sEq_ne h3, sEq_ne h4, sEq_ne h5⟩))))))

theorem m1 : sEq ⟨#[103, 105, 118, 101, 110]⟩ ⟨#[97, 115, 107, 101, 100]⟩ = false := sEq_ne (by intro e; cases e)
theorem m2 : sEq ⟨#[98, 97, 99, 107]⟩ ⟨#[97, 115, 107, 101, 100]⟩ = false := sEq_ne (by intro e; cases e)
theorem m3 : sEq ⟨#[98, 97, 99, 107]⟩ ⟨#[103, 105, 118, 101, 110]⟩ = false := sEq_ne (by intro e; cases e)
end Go.Proofs.Ytgdjnflnfeakjaa

namespace Go.Proofs.Ytgdjnflnfeakjaa
open Go
set_option linter.unusedSimpArgs false
set_option maxRecDepth 100000

/-! ### Numbers -/
theorem digit_nat {d : Nat} (h : d < 10) : (UInt8.ofNat (48 + d)).toNat = 48 + d := by
  rw [UInt8.toNat_ofNat']; omega
theorem dec_bytes : ∀ (n : Nat) (x : UInt8), x ∈ Lib.decDigits n → 48 ≤ x.toNat ∧ x.toNat ≤ 57 := by
  intro n
  induction n using Nat.strongRecOn with
  | ind n ih =>
    intro x hx
    rw [Lib.decDigits] at hx
    split at hx
    · simp only [List.mem_singleton] at hx
      subst hx
      rw [digit_nat (by omega)]; omega
    · rcases List.mem_append.1 hx with hx | hx
      · exact ih (n / 10) (by omega) x hx
      · simp only [List.mem_singleton] at hx
        subst hx
        rw [digit_nat (by omega)]; omega
theorem dec_ne (n : Nat) : ∃ c r, Lib.decDigits n = c :: r := by
  cases h : Lib.decDigits n with
  | cons c r => exact ⟨c, r, rfl⟩
  | nil =>
    rw [Lib.decDigits] at h
    split at h <;> simp at h
theorem parse_dec : ∀ (n : Nat), n ≤ 1000000 → ∀ r, Lib.parseUint10 0 (Lib.decDigits n ++ r) = Lib.parseUint10 n r := by
  intro n
  induction n using Nat.strongRecOn with
  | ind n ih =>
    intro hn r
    rw [Lib.decDigits]
    split
    · rename_i h
      rw [List.cons_append, List.nil_append, Lib.parseUint10, digit_nat h, if_pos ⟨by omega, by omega⟩, if_neg (by omega), if_neg (by omega)]
      congr 1; omega
    · have hd : n % 10 < 10 := by omega
      rw [List.append_assoc, ih (n / 10) (by omega) (by omega), List.cons_append, List.nil_append, Lib.parseUint10, digit_nat hd, if_pos ⟨by omega, by omega⟩, if_neg (by omega), if_neg (by omega)]
      congr 1; omega
theorem digs_dec : ∀ (n : Nat) (r : List UInt8), digs 0 (Lib.decDigits n ++ r) = digs n r := by
  intro n
  induction n using Nat.strongRecOn with
  | ind n ih =>
    intro r
    rw [Lib.decDigits]
    split
    · rename_i h
      rw [List.cons_append, List.nil_append, digs, digit_nat h, if_pos ⟨by omega, by omega⟩]
      congr 1; omega
    · have hd : n % 10 < 10 := by omega
      rw [List.append_assoc, ih (n / 10) (by omega), List.cons_append, List.nil_append, digs, digit_nat hd, if_pos ⟨by omega, by omega⟩]
      congr 1; omega
theorem numT_dec (n : Int) (h0 : 0 ≤ n) (h1 : n ≤ 1000000) : numT (dec n.toNat) = n := by
  unfold numT
  rw [dec_lib]
  obtain ⟨c, r, e⟩ := dec_ne n.toNat
  have hc := dec_bytes n.toNat c (by rw [e]; exact List.mem_cons_self)
  have hp := parse_dec n.toNat (by omega) []
  rw [List.append_nil] at hp
  rw [e] at hp ⊢
  simp only [Lib.atoiAll, Lib.parseMag]
  have hs : ¬ (c.toNat = 43 ∨ c.toNat = 45) := by omega
  have hm : ¬ c.toNat = 45 := by omega
  rw [if_neg hs, if_neg (List.cons_ne_nil _ _), hp]
  simp only [Lib.parseUint10]
  rw [if_neg (by omega), if_neg (by omega), if_neg hm]
  show ((n.toNat : Nat) : Int) = n
  omega
theorem num7_dec (n : Int) (h0 : 0 ≤ n) (h1 : n ≤ 1000000) : num7 (dec n.toNat) = n := by
  have hs := (law140' n h0 h1).2
  obtain ⟨c, r, e⟩ := dec_ne n.toNat
  have h1 : 1 ≤ (dec n.toNat).size := by
    rw [← size_toList, dec_lib, e]; simp
  have hd := digs_dec n.toNat []
  rw [List.append_nil] at hd
  rw [num7, if_pos ⟨h1, hs⟩, dec_lib, hd]
  simp only [digs]
  rw [show ((n.toNat : Nat) : Int) = n by omega, (sEq_iff _ _).2 rfl]
  rfl

/-! ### Lines and words -/
def lns (ls : List (List UInt8)) : List UInt8 := ls.flatMap (· ++ [10])
def wds (w : List UInt8) (r : List (List UInt8)) : List UInt8 := w ++ r.flatMap (32 :: ·)

theorem cut_wds : ∀ (w : List UInt8) (r : List (List UInt8)), (∀ x ∈ w :: r, ¬ (32 : UInt8) ∈ x) → cutA 32 [] (wds w r) = w :: r
  | w, [], h => by
    rw [wds, List.flatMap_nil, List.append_nil, cutA_no _ (h w List.mem_cons_self)]; rfl
  | w, v :: r, h => by
    rw [wds, List.flatMap_cons, List.cons_append, cutA_at _ (h w List.mem_cons_self), List.nil_append]
    have := cut_wds v r (fun x hx => h x (List.mem_cons_of_mem _ hx))
    rw [wds] at this
    rw [this]
theorem cut_lns : ∀ (ls : List (List UInt8)), (∀ x ∈ ls, ¬ (10 : UInt8) ∈ x) → cutA 10 [] (lns ls) = ls ++ [[]]
  | [], _ => rfl
  | l :: ls, h => by
    rw [lns, List.flatMap_cons, List.append_assoc, List.cons_append, List.nil_append, cutA_at _ (h l List.mem_cons_self), List.nil_append]
    have := cut_lns ls (fun x hx => h x (List.mem_cons_of_mem _ hx))
    rw [lns] at this
    rw [this]; rfl
theorem lns_ne (l : List UInt8) (ls : List (List UInt8)) : lns (l :: ls) ≠ [] := by simp [lns]
theorem cut_lns' : ∀ (l : List UInt8) (ls : List (List UInt8)), (∀ x ∈ l :: ls, ¬ (10 : UInt8) ∈ x) → cutA 10 [] (lns (l :: ls)).dropLast = l :: ls
  | l, [], h => by
    rw [lns, List.flatMap_cons, List.flatMap_nil, List.append_nil, List.dropLast_concat, cutA_no _ (h l List.mem_cons_self)]; rfl
  | l, v :: ls, h => by
    have e : (lns (l :: v :: ls)).dropLast = l ++ 10 :: (lns (v :: ls)).dropLast := by
      rw [lns, List.flatMap_cons, List.append_assoc, List.cons_append, List.nil_append, List.dropLast_append_of_ne_nil (by simp)]
      show l ++ (10 :: lns (v :: ls)).dropLast = _
      rw [List.dropLast_cons_of_ne_nil (lns_ne v ls)]
    rw [e, cutA_at _ (h l List.mem_cons_self), cut_lns' v ls (fun x hx => h x (List.mem_cons_of_mem _ hx))]; rfl
theorem lns_suffix : ∀ (l : List UInt8) (ls : List (List UInt8)), Lib.hasSuffix (lns (l :: ls)) [10] = true := by
  intro l ls
  induction ls generalizing l with
  | nil => simp [lns, Lib.hasSuffix]
  | cons v ls ih =>
    have := ih v
    simp only [Lib.hasSuffix, List.isSuffixOf_iff_suffix] at this ⊢
    rw [show lns (l :: v :: ls) = (l ++ [10]) ++ lns (v :: ls) by simp [lns]]
    exact List.IsSuffix.trans this (List.suffix_append _ _)

theorem mkT_self (s : T) : mkT s.data.toList = s := rfl

/-- A text of lines, cut. -/
theorem read_lns {s : T} {l : List UInt8} {ls : List (List UInt8)} (hs : s.data.toList = lns (l :: ls)) (h : ∀ x ∈ l :: ls, ¬ (10 : UInt8) ∈ x) :
    readS s = readWords (atW (cutT (mkT l) 32) 0) (cutT (mkT l) 32) (ls.map mkT ++ [⟨#[]⟩]) ∧ readI s = outI s (wordsI (atW (cutT (mkT l) 32) 0) (cutT (mkT l) 32) (ls.map mkT)) ∧ sEq s ⟨#[]⟩ = false := by
  have e1 : cutT s 10 = mkT l :: (ls.map mkT ++ [⟨#[]⟩]) := by
    rw [cutT, hs, cut_lns _ h]; simp; rfl
  have e2 : cutT (s.extract 0 (s.size - 1)) 10 = mkT l :: ls.map mkT := by
    rw [cutT, extract_mk, mkT_data, List.drop_zero, ← size_toList, ← List.dropLast_eq_take, hs, cut_lns' _ _ h]; rfl
  refine ⟨?_, ?_, ?_⟩
  · rw [readS, e1]; rfl
  · rw [readI, e2, hs, lns_suffix]; rfl
  · refine sEq_ne fun e => ?_
    rw [e] at hs
    exact lns_ne l ls hs.symm
theorem w_told : Words ⟨#[116, 111, 108, 100]⟩ true false false false false false := ⟨(sEq_iff _ _).2 rfl, sEq_ne (by intro e; cases e), sEq_ne (by intro e; cases e), sEq_ne (by intro e; cases e), sEq_ne (by intro e; cases e), sEq_ne (by intro e; cases e)⟩
theorem w_asked : Words ⟨#[97, 115, 107, 101, 100]⟩ false true false false false false := ⟨sEq_ne (by intro e; cases e), (sEq_iff _ _).2 rfl, sEq_ne (by intro e; cases e), sEq_ne (by intro e; cases e), sEq_ne (by intro e; cases e), sEq_ne (by intro e; cases e)⟩
theorem w_given : Words ⟨#[103, 105, 118, 101, 110]⟩ false false true false false false := ⟨sEq_ne (by intro e; cases e), sEq_ne (by intro e; cases e), (sEq_iff _ _).2 rfl, sEq_ne (by intro e; cases e), sEq_ne (by intro e; cases e), sEq_ne (by intro e; cases e)⟩
theorem w_back : Words ⟨#[98, 97, 99, 107]⟩ false false false true false false := ⟨sEq_ne (by intro e; cases e), sEq_ne (by intro e; cases e), sEq_ne (by intro e; cases e), (sEq_iff _ _).2 rfl, sEq_ne (by intro e; cases e), sEq_ne (by intro e; cases e)⟩
theorem w_gotback : Words ⟨#[103, 111, 116, 98, 97, 99, 107]⟩ false false false false true false := ⟨sEq_ne (by intro e; cases e), sEq_ne (by intro e; cases e), sEq_ne (by intro e; cases e), sEq_ne (by intro e; cases e), (sEq_iff _ _).2 rfl, sEq_ne (by intro e; cases e)⟩
theorem w_here : Words ⟨#[104, 101, 114, 101]⟩ false false false false false true := ⟨sEq_ne (by intro e; cases e), sEq_ne (by intro e; cases e), sEq_ne (by intro e; cases e), sEq_ne (by intro e; cases e), sEq_ne (by intro e; cases e), (sEq_iff _ _).2 rfl⟩
theorem dec_mk (n : Nat) : mkT (Lib.decDigits n) = dec n := text_ext (dec_lib n).symm
theorem name_no {s : T} (h : isName s = true) (b : UInt8) (hb : b.toNat < 33) : ¬ b ∈ s.data.toList := by
  intro hm
  simp only [isName, Bool.and_eq_true, List.all_eq_true] at h
  have := h.2 b hm
  simp only [nameByte, Bool.and_eq_true, decide_eq_true_eq] at this
  omega
theorem dec_no (n : Nat) (b : UInt8) (hb : b.toNat < 33) : ¬ b ∈ Lib.decDigits n := fun hm => by
  have := (dec_bytes n b hm).1
  omega
theorem no_wds {b : UInt8} (hb : b ≠ 32) {w : List UInt8} {r : List (List UInt8)} (h : ∀ x ∈ w :: r, ¬ b ∈ x) : ¬ b ∈ wds w r := by
  intro hm
  rcases List.mem_append.1 hm with hm | hm
  · exact h w List.mem_cons_self hm
  · obtain ⟨x, hx, hm⟩ := List.mem_flatMap.1 hm
    rcases List.mem_cons.1 hm with hm | hm
    · exact hb hm
    · exact h x (List.mem_cons_of_mem _ hx) hm
theorem hold_name {h : T} (k : isHold h = true) : isName h = true := by
  simp only [isHold, Bool.and_eq_true] at k
  exact k.1
theorem cutT_wds {w : List UInt8} {r : List (List UInt8)} (h : ∀ x ∈ w :: r, ¬ (32 : UInt8) ∈ x) : cutT (mkT (wds w r)) 32 = mkT w :: r.map mkT := by
  rw [cutT, mkT_data, cut_wds w r h]; rfl
def Round (s : T) (p : Parcel) : Prop := readS s = p ∧ readI s = outI s (some p) ∧ sEq s ⟨#[]⟩ = false

theorem round_asked (b : T) (h : T) (c : T) (a : Int) (hb : isName b = true) (hh : isName h = true) (hc : isName c = true) (ha : 0 ≤ a ∧ a ≤ 1000000) {s : T} (hs : s.data.toList = lns [wds [97, 115, 107, 101, 100] [b.data.toList, h.data.toList, c.data.toList, Lib.decDigits a.toNat]]) : Round s ⟨2, b, 0, [], h, c, a⟩ := by
  have n32 : ∀ x ∈ [97, 115, 107, 101, 100] :: [b.data.toList, h.data.toList, c.data.toList, Lib.decDigits a.toNat], ¬ (32 : UInt8) ∈ x := by
    intro x hx
    simp only [List.mem_cons, List.not_mem_nil, or_false] at hx
    rcases hx with rfl | rfl | rfl | rfl | rfl
    · decide
    · exact name_no hb _ (by decide)
    · exact name_no hh _ (by decide)
    · exact name_no hc _ (by decide)
    · exact dec_no _ _ (by decide)
  have n10 : ∀ x ∈ [97, 115, 107, 101, 100] :: [b.data.toList, h.data.toList, c.data.toList, Lib.decDigits a.toNat], ¬ (10 : UInt8) ∈ x := by
    intro x hx
    simp only [List.mem_cons, List.not_mem_nil, or_false] at hx
    rcases hx with rfl | rfl | rfl | rfl | rfl
    · decide
    · exact name_no hb _ (by decide)
    · exact name_no hh _ (by decide)
    · exact name_no hc _ (by decide)
    · exact dec_no _ _ (by decide)
  obtain ⟨r1, r2, r3⟩ := read_lns hs (fun x hx => by rw [List.mem_singleton.1 hx]; exact no_wds (by decide) n10)
  rw [cutT_wds n32] at r1 r2
  obtain ⟨k1, k2, k3, k4, k5, k6⟩ := w_asked
  have e0 : mkT [97, 115, 107, 101, 100] = ⟨#[97, 115, 107, 101, 100]⟩ := rfl
  have a1 := num7_dec a ha.1 ha.2
  have a2 := numT_dec a ha.1 ha.2
  refine ⟨?_, ?_, r3⟩
  · rw [r1]; simp [readWords, isAsk, readKind, atW, e0, k1, k2, k3, k4, k5, k6, dec_mk, a1, mkT_self]
  · rw [r2]; simp [wordsI, isAsk, readKind, atW, e0, k1, k2, k3, k4, k5, k6, dec_mk, a2, mkT_self]
theorem round_given (b : T) (h : T) (c : T) (a : Int) (hb : isName b = true) (hh : isName h = true) (hc : isName c = true) (ha : 0 ≤ a ∧ a ≤ 1000000) {s : T} (hs : s.data.toList = lns [wds [103, 105, 118, 101, 110] [b.data.toList, h.data.toList, c.data.toList, Lib.decDigits a.toNat]]) : Round s ⟨3, b, 0, [], h, c, a⟩ := by
  have n32 : ∀ x ∈ [103, 105, 118, 101, 110] :: [b.data.toList, h.data.toList, c.data.toList, Lib.decDigits a.toNat], ¬ (32 : UInt8) ∈ x := by
    intro x hx
    simp only [List.mem_cons, List.not_mem_nil, or_false] at hx
    rcases hx with rfl | rfl | rfl | rfl | rfl
    · decide
    · exact name_no hb _ (by decide)
    · exact name_no hh _ (by decide)
    · exact name_no hc _ (by decide)
    · exact dec_no _ _ (by decide)
  have n10 : ∀ x ∈ [103, 105, 118, 101, 110] :: [b.data.toList, h.data.toList, c.data.toList, Lib.decDigits a.toNat], ¬ (10 : UInt8) ∈ x := by
    intro x hx
    simp only [List.mem_cons, List.not_mem_nil, or_false] at hx
    rcases hx with rfl | rfl | rfl | rfl | rfl
    · decide
    · exact name_no hb _ (by decide)
    · exact name_no hh _ (by decide)
    · exact name_no hc _ (by decide)
    · exact dec_no _ _ (by decide)
  obtain ⟨r1, r2, r3⟩ := read_lns hs (fun x hx => by rw [List.mem_singleton.1 hx]; exact no_wds (by decide) n10)
  rw [cutT_wds n32] at r1 r2
  obtain ⟨k1, k2, k3, k4, k5, k6⟩ := w_given
  have e0 : mkT [103, 105, 118, 101, 110] = ⟨#[103, 105, 118, 101, 110]⟩ := rfl
  have a1 := num7_dec a ha.1 ha.2
  have a2 := numT_dec a ha.1 ha.2
  refine ⟨?_, ?_, r3⟩
  · rw [r1]; simp [readWords, isAsk, readKind, atW, e0, k1, k2, k3, k4, k5, k6, dec_mk, a1, mkT_self]
  · rw [r2]; simp [wordsI, isAsk, readKind, atW, e0, k1, k2, k3, k4, k5, k6, dec_mk, a2, mkT_self]
theorem round_back (b : T) (h : T) (c : T) (a : Int) (hb : isName b = true) (hh : isName h = true) (hc : isName c = true) (ha : 0 ≤ a ∧ a ≤ 1000000) {s : T} (hs : s.data.toList = lns [wds [98, 97, 99, 107] [b.data.toList, h.data.toList, c.data.toList, Lib.decDigits a.toNat]]) : Round s ⟨4, b, 0, [], h, c, a⟩ := by
  have n32 : ∀ x ∈ [98, 97, 99, 107] :: [b.data.toList, h.data.toList, c.data.toList, Lib.decDigits a.toNat], ¬ (32 : UInt8) ∈ x := by
    intro x hx
    simp only [List.mem_cons, List.not_mem_nil, or_false] at hx
    rcases hx with rfl | rfl | rfl | rfl | rfl
    · decide
    · exact name_no hb _ (by decide)
    · exact name_no hh _ (by decide)
    · exact name_no hc _ (by decide)
    · exact dec_no _ _ (by decide)
  have n10 : ∀ x ∈ [98, 97, 99, 107] :: [b.data.toList, h.data.toList, c.data.toList, Lib.decDigits a.toNat], ¬ (10 : UInt8) ∈ x := by
    intro x hx
    simp only [List.mem_cons, List.not_mem_nil, or_false] at hx
    rcases hx with rfl | rfl | rfl | rfl | rfl
    · decide
    · exact name_no hb _ (by decide)
    · exact name_no hh _ (by decide)
    · exact name_no hc _ (by decide)
    · exact dec_no _ _ (by decide)
  obtain ⟨r1, r2, r3⟩ := read_lns hs (fun x hx => by rw [List.mem_singleton.1 hx]; exact no_wds (by decide) n10)
  rw [cutT_wds n32] at r1 r2
  obtain ⟨k1, k2, k3, k4, k5, k6⟩ := w_back
  have e0 : mkT [98, 97, 99, 107] = ⟨#[98, 97, 99, 107]⟩ := rfl
  have a1 := num7_dec a ha.1 ha.2
  have a2 := numT_dec a ha.1 ha.2
  refine ⟨?_, ?_, r3⟩
  · rw [r1]; simp [readWords, isAsk, readKind, atW, e0, k1, k2, k3, k4, k5, k6, dec_mk, a1, mkT_self]
  · rw [r2]; simp [wordsI, isAsk, readKind, atW, e0, k1, k2, k3, k4, k5, k6, dec_mk, a2, mkT_self]
theorem round_gotback (b : T) (h : T) (a : Int) (hb : isName b = true) (hh : isName h = true) (ha : 0 ≤ a ∧ a ≤ 1000000) {s : T} (hs : s.data.toList = lns [wds [103, 111, 116, 98, 97, 99, 107] [b.data.toList, h.data.toList, Lib.decDigits a.toNat]]) : Round s ⟨5, b, 0, [], h, ⟨#[]⟩, a⟩ := by
  have n32 : ∀ x ∈ [103, 111, 116, 98, 97, 99, 107] :: [b.data.toList, h.data.toList, Lib.decDigits a.toNat], ¬ (32 : UInt8) ∈ x := by
    intro x hx
    simp only [List.mem_cons, List.not_mem_nil, or_false] at hx
    rcases hx with rfl | rfl | rfl | rfl
    · decide
    · exact name_no hb _ (by decide)
    · exact name_no hh _ (by decide)
    · exact dec_no _ _ (by decide)
  have n10 : ∀ x ∈ [103, 111, 116, 98, 97, 99, 107] :: [b.data.toList, h.data.toList, Lib.decDigits a.toNat], ¬ (10 : UInt8) ∈ x := by
    intro x hx
    simp only [List.mem_cons, List.not_mem_nil, or_false] at hx
    rcases hx with rfl | rfl | rfl | rfl
    · decide
    · exact name_no hb _ (by decide)
    · exact name_no hh _ (by decide)
    · exact dec_no _ _ (by decide)
  obtain ⟨r1, r2, r3⟩ := read_lns hs (fun x hx => by rw [List.mem_singleton.1 hx]; exact no_wds (by decide) n10)
  rw [cutT_wds n32] at r1 r2
  obtain ⟨k1, k2, k3, k4, k5, k6⟩ := w_gotback
  have e0 : mkT [103, 111, 116, 98, 97, 99, 107] = ⟨#[103, 111, 116, 98, 97, 99, 107]⟩ := rfl
  have a1 := num7_dec a ha.1 ha.2
  have a2 := numT_dec a ha.1 ha.2
  refine ⟨?_, ?_, r3⟩
  · rw [r1]; simp [readWords, isAsk, readKind, atW, e0, k1, k2, k3, k4, k5, k6, dec_mk, a1, mkT_self]
  · rw [r2]; simp [wordsI, isAsk, readKind, atW, e0, k1, k2, k3, k4, k5, k6, dec_mk, a2, mkT_self]
theorem round_here (b : T) (a : Int) (hb : isName b = true) (ha : 0 ≤ a ∧ a ≤ 1000000) {s : T} (hs : s.data.toList = lns [wds [104, 101, 114, 101] [b.data.toList, Lib.decDigits a.toNat]]) : Round s ⟨6, b, a, [], ⟨#[]⟩, ⟨#[]⟩, 0⟩ := by
  have n32 : ∀ x ∈ [104, 101, 114, 101] :: [b.data.toList, Lib.decDigits a.toNat], ¬ (32 : UInt8) ∈ x := by
    intro x hx
    simp only [List.mem_cons, List.not_mem_nil, or_false] at hx
    rcases hx with rfl | rfl | rfl
    · decide
    · exact name_no hb _ (by decide)
    · exact dec_no _ _ (by decide)
  have n10 : ∀ x ∈ [104, 101, 114, 101] :: [b.data.toList, Lib.decDigits a.toNat], ¬ (10 : UInt8) ∈ x := by
    intro x hx
    simp only [List.mem_cons, List.not_mem_nil, or_false] at hx
    rcases hx with rfl | rfl | rfl
    · decide
    · exact name_no hb _ (by decide)
    · exact dec_no _ _ (by decide)
  obtain ⟨r1, r2, r3⟩ := read_lns hs (fun x hx => by rw [List.mem_singleton.1 hx]; exact no_wds (by decide) n10)
  rw [cutT_wds n32] at r1 r2
  obtain ⟨k1, k2, k3, k4, k5, k6⟩ := w_here
  have e0 : mkT [104, 101, 114, 101] = ⟨#[104, 101, 114, 101]⟩ := rfl
  have a1 := num7_dec a ha.1 ha.2
  have a2 := numT_dec a ha.1 ha.2
  refine ⟨?_, ?_, r3⟩
  · rw [r1]; simp [readWords, isAsk, readKind, atW, e0, k1, k2, k3, k4, k5, k6, dec_mk, a1, mkT_self]
  · rw [r2]; simp [wordsI, isAsk, readKind, atW, e0, k1, k2, k3, k4, k5, k6, dec_mk, a2, mkT_self]
/-! ### Wants -/
def wantLine (w : Want) : List UInt8 := wds [119, 97, 110, 116] [w.copy.data.toList, Lib.decDigits w.version.toNat, (starOr w.hold).data.toList, Lib.decDigits w.pull.toNat, Lib.decDigits w.start.toNat, Lib.decDigits w.dies.toNat, Lib.decDigits w.grace.toNat]
theorem formWant_data (w : Want) : (formWant w).data.toList = wantLine w ++ [10] := by
  simp [formWant, text_append, dec_lib, wantLine, wds]
theorem formWants_data : ∀ (ws : List Want) (acc : T), (formWants acc ws).data.toList = acc.data.toList ++ lns (ws.map wantLine)
  | [], acc => by simp [formWants, lns]
  | w :: ws, acc => by rw [formWants, formWants_data ws, text_append, formWant_data]; simp [lns]
theorem star_no {h : T} (k : (sEq h ⟨#[]⟩ || isHold h) = true) (b : UInt8) (hb : b.toNat < 33) : ¬ b ∈ (starOr h).data.toList := by
  unfold starOr
  split
  · intro hm
    have : b = 42 := by simpa using hm
    subst this
    exact absurd hb (by decide)
  · rename_i hn
    rcases Bool.or_eq_true_iff.1 k with k | k
    · exact absurd k hn
    · exact name_no (hold_name k) b hb
theorem unstar_star {h : T} (k : sEq h ⟨#[42]⟩ = false) : unstar (starOr h) = h := by
  unfold starOr
  by_cases e : sEq h ⟨#[]⟩ = true
  · rw [if_pos e, (sEq_iff _ _).1 e]
    have : sEq ⟨#[42]⟩ ⟨#[42]⟩ = true := (sEq_iff _ _).2 rfl
    simp [unstar, this]
  · rw [if_neg e, unstar, k]
    rfl
theorem wantLine_no {w : Want} (h : wantOk w = true) (b : UInt8) (hb : b.toNat < 32) : ¬ b ∈ wantLine w := by
  have hc : isName w.copy = true := by simp only [wantOk, Bool.and_eq_true] at h; exact h.1.1.1.1.1.1
  have hh : (sEq w.hold ⟨#[]⟩ || isHold w.hold) = true := by simp only [wantOk, Bool.and_eq_true] at h; exact h.1.1.1.1.2
  refine no_wds (fun e => by subst e; exact absurd hb (by decide)) fun x hx => ?_
  simp only [List.mem_cons, List.not_mem_nil, or_false] at hx
  rcases hx with rfl | rfl | rfl | rfl | rfl | rfl | rfl | rfl
  · intro hm
    simp only [List.mem_cons, List.not_mem_nil, or_false] at hm
    rcases hm with rfl | rfl | rfl | rfl <;> exact absurd hb (by decide)
  · exact name_no hc b (by omega)
  · exact dec_no _ b (by omega)
  · exact star_no hh b (by omega)
  all_goals exact dec_no _ b (by omega)
theorem want_words {w : Want} (h : wantOk w = true) : cutT (mkT (wantLine w)) 32 = [⟨#[119, 97, 110, 116]⟩, w.copy, dec w.version.toNat, starOr w.hold, dec w.pull.toNat, dec w.start.toNat, dec w.dies.toNat, dec w.grace.toNat] := by
  have hc : isName w.copy = true := by simp only [wantOk, Bool.and_eq_true] at h; exact h.1.1.1.1.1.1
  have hh : (sEq w.hold ⟨#[]⟩ || isHold w.hold) = true := by simp only [wantOk, Bool.and_eq_true] at h; exact h.1.1.1.1.2
  rw [wantLine, cutT_wds]
  · simp [dec_mk, mkT_self]; rfl
  · intro x hx
    simp only [List.mem_cons, List.not_mem_nil, or_false] at hx
    rcases hx with rfl | rfl | rfl | rfl | rfl | rfl | rfl | rfl
    · decide
    · exact name_no hc _ (by decide)
    · exact dec_no _ _ (by decide)
    · exact star_no hh _ (by decide)
    all_goals exact dec_no _ _ (by decide)
theorem want_read {w : Want} (h : wantOk w = true) : readWant (cutT (mkT (wantLine w)) 32) = w ∧ wantI (cutT (mkT (wantLine w)) 32) = w ∧ lineOk (cutT (mkT (wantLine w)) 32) = true := by
  obtain ⟨_, _, f1, f2, f3, f4, f5⟩ := wantOk_fits h
  have hs := unstar_star (wantOk_star h)
  have e : sEq ⟨#[119, 97, 110, 116]⟩ ⟨#[119, 97, 110, 116]⟩ = true := (sEq_iff _ _).2 rfl
  rw [want_words h]
  refine ⟨?_, ?_, ?_⟩
  · simp [readWant, atW, num7_dec _ f1.1 f1.2, num7_dec _ f2.1 f2.2, num7_dec _ f3.1 f3.2, num7_dec _ f4.1 f4.2, num7_dec _ f5.1 f5.2, hs]
  · simp [wantI, atW, numT_dec _ f1.1 f1.2, numT_dec _ f2.1 f2.2, numT_dec _ f3.1 f3.2, numT_dec _ f4.1 f4.2, numT_dec _ f5.1 f5.2, hs]
  · simp [lineOk, atW, e]
theorem lines_want : ∀ (ws acc : List Want), (∀ w ∈ ws, wantOk w = true) → linesI acc ((ws.map wantLine).map mkT) = some (acc ++ ws)
  | [], acc, _ => by simp [linesI]
  | w :: ws, acc, h => by
    obtain ⟨_, h2, h3⟩ := want_read (h w List.mem_cons_self)
    rw [List.map_cons, List.map_cons, linesI, h3, if_pos rfl, h2, lines_want ws _ (fun x hx => h x (List.mem_cons_of_mem _ hx)), List.append_assoc]; rfl
theorem lines_read (ws : List Want) (h : ∀ w ∈ ws, wantOk w = true) : readLines ((ws.map wantLine).map mkT ++ [⟨#[]⟩]) = ws := by
  rw [readLines, List.dropLast_concat, List.map_map, List.map_map]
  conv => rhs; rw [← List.map_id ws]
  exact List.map_congr_left fun w hw => (want_read (h w hw)).1

theorem round_told (b : T) (a : Int) (ws : List Want) (hb : isName b = true) (ha : 0 ≤ a ∧ a ≤ 1000000) (hw : ∀ w ∈ ws, wantOk w = true) {s : T} (hs : s.data.toList = lns (wds [116, 111, 108, 100] [b.data.toList, Lib.decDigits a.toNat] :: ws.map wantLine)) : Round s ⟨1, b, a, ws, ⟨#[]⟩, ⟨#[]⟩, 0⟩ := by
  have n32 : ∀ x ∈ [116, 111, 108, 100] :: [b.data.toList, Lib.decDigits a.toNat], ¬ (32 : UInt8) ∈ x := by
    intro x hx
    simp only [List.mem_cons, List.not_mem_nil, or_false] at hx
    rcases hx with rfl | rfl | rfl
    · decide
    · exact name_no hb _ (by decide)
    · exact dec_no _ _ (by decide)
  have n10 : ∀ x ∈ [116, 111, 108, 100] :: [b.data.toList, Lib.decDigits a.toNat], ¬ (10 : UInt8) ∈ x := by
    intro x hx
    simp only [List.mem_cons, List.not_mem_nil, or_false] at hx
    rcases hx with rfl | rfl | rfl
    · decide
    · exact name_no hb _ (by decide)
    · exact dec_no _ _ (by decide)
  obtain ⟨r1, r2, r3⟩ := read_lns hs (fun x hx => by
    rcases List.mem_cons.1 hx with hx | hx
    · rw [hx]; exact no_wds (by decide) n10
    · obtain ⟨w, h1, rfl⟩ := List.mem_map.1 hx
      exact wantLine_no (hw w h1) _ (by decide))
  rw [cutT_wds n32] at r1 r2
  obtain ⟨k1, k2, k3, k4, k5, k6⟩ := w_told
  have e0 : mkT [116, 111, 108, 100] = ⟨#[116, 111, 108, 100]⟩ := rfl
  have a1 := num7_dec a ha.1 ha.2
  have a2 := numT_dec a ha.1 ha.2
  have l1 := lines_read ws hw
  have l2 := lines_want ws [] hw
  refine ⟨?_, ?_, r3⟩
  · rw [r1, readWords, l1]; simp [atW, e0, k1, dec_mk, a1, mkT_self]
  · rw [r2, wordsI, l2]; simp [atW, e0, k1, dec_mk, a2, mkT_self]

/-! ### Both ways -/
theorem round {s : T} {p : Parcel} (hp : parcelForm p = s) (hs : s ≠ ⟨#[]⟩) : Round s p := by
  obtain ⟨kind, b, seen, ws, h, c, a⟩ := p
  unfold parcelForm at hp
  simp only at hp
  split at hp
  case isFalse => exact absurd hp.symm hs
  rename_i hb
  unfold formSw at hp
  simp only at hp
  split at hp
  · rename_i hk
    split at hp
    case isFalse => exact absurd hp.symm hs
    rename_i hc
    simp only [Bool.and_eq_true, noHold, beq_iff_eq] at hc
    obtain ⟨c1, c2, c3, c4, c5⟩ := hc
    have c3 := (sEq_iff _ _).1 c3
    have c4 := (sEq_iff _ _).1 c4
    subst hk; subst c3; subst c4; subst c5
    obtain ⟨i1, i2⟩ := inR_le c1
    refine round_told b seen ws hb ⟨by omega, by omega⟩ ((wantsOk_iff _).1 c2).2.1 ?_
    rw [← hp, formWants_data]
    simp [toldHead, text_append, dec_lib, lns, wds]
  · split at hp
    · rename_i hk
      split at hp
      case isFalse => exact absurd hp.symm hs
      rename_i hc
      simp only [Bool.and_eq_true, beq_iff_eq, List.isEmpty_iff] at hc
      obtain ⟨c1, c2, c3, c4, c5⟩ := hc
      subst c4; subst c5
      obtain ⟨i1, i2⟩ := inR_le c3
      rcases hk with rfl | rfl | rfl
      · refine round_asked b h c a hb (hold_name c1) c2 ⟨i1, i2⟩ ?_
        rw [← hp]
        simp [word, text_append, dec_lib, lns, wds]
      · refine round_given b h c a hb (hold_name c1) c2 ⟨i1, i2⟩ ?_
        rw [← hp]
        simp [word, text_append, dec_lib, lns, wds]
      · refine round_back b h c a hb (hold_name c1) c2 ⟨i1, i2⟩ ?_
        rw [← hp]
        simp [word, text_append, dec_lib, lns, wds]
    · split at hp
      · rename_i hk
        split at hp
        case isFalse => exact absurd hp.symm hs
        rename_i hc
        simp only [Bool.and_eq_true, beq_iff_eq, List.isEmpty_iff] at hc
        obtain ⟨c1, c2, c3, c4, c5⟩ := hc
        have c2 := (sEq_iff _ _).1 c2
        subst hk; subst c2; subst c4; subst c5
        obtain ⟨i1, i2⟩ := inR_le c3
        refine round_gotback b h a hb (hold_name c1) ⟨i1, i2⟩ ?_
        rw [← hp]
        simp [text_append, dec_lib, lns, wds]
      · split at hp
        · rename_i hk
          split at hp
          case isFalse => exact absurd hp.symm hs
          rename_i hc
          simp only [Bool.and_eq_true, beq_iff_eq, List.isEmpty_iff, noHold] at hc
          obtain ⟨c1, c2, c3, c4, c5⟩ := hc
          have c3 := (sEq_iff _ _).1 c3
          have c4 := (sEq_iff _ _).1 c4
          subst hk; subst c2; subst c3; subst c4; subst c5
          obtain ⟨i1, i2⟩ := inR_le c1
          refine round_here b seen hb ⟨i1, i2⟩ ?_
          rw [← hp]
          simp [text_append, dec_lib, lns, wds]
        · exact absurd hp.symm hs

/-- The program reads as the reference does. -/
theorem readI_readT (s : T) : readI s = readT s := by
  by_cases hg : s ≠ ⟨#[]⟩ ∧ parcelForm (readS s) = s
  · obtain ⟨h1, h2⟩ := hg
    obtain ⟨r1, r2, r3⟩ := round h2 h1
    rw [r2, readT, r3, h2, outI, h2, (sEq_iff s s).2 rfl]
    rfl
  · have hT : readT s = (noParcel, false) := by
      rw [readT, if_pos]
      by_cases h1 : s = ⟨#[]⟩
      · rw [(sEq_iff _ _).2 h1]; rfl
      · rw [sEq_ne (fun e => hg ⟨h1, e⟩)]; simp
    rw [hT, readI]
    split
    · rename_i hsx
      cases hq : wordsI (atW (cutT (atW (cutT (s.extract 0 (s.size - 1)) 10) 0) 32) 0) (cutT (atW (cutT (s.extract 0 (s.size - 1)) 10) 0) 32) (cutT (s.extract 0 (s.size - 1)) 10).tail with
      | none => rfl
      | some q =>
        rw [outI]
        split
        · rename_i hf
          have hf := (sEq_iff _ _).1 hf
          have hne : s ≠ ⟨#[]⟩ := fun e => by
            rw [e] at hsx
            cases hsx
          obtain ⟨r1, _, _⟩ := round hf hne
          exact absurd ⟨hne, by rw [r1]; exact hf⟩ hg
        · rfl
    · rfl
/-- What is written is read back. -/
theorem readT_form {p : Parcel} (h : parcelForm p ≠ ⟨#[]⟩) : readT (parcelForm p) = (p, true) := by
  obtain ⟨r1, _, r3⟩ := round (p := p) rfl h
  rw [readT, r1, r3, (sEq_iff _ _).2 rfl]
  rfl

end Go.Proofs.Ytgdjnflnfeakjaa

namespace Go.Proofs.Ytgdjnflnfeakjaa
open Go
set_option linter.unusedSimpArgs false
set_option maxRecDepth 100000

theorem eqsWant (a : Want) : eqCells [.s, .i, .s, .i, .i, .i, .i] a.c a.c = some true := by
  simp [eqCells, eqCell]
  exact (eqWant_iff a a).2 rfl

def headWWant (m m' : Md) (xs : List Want) (i : Nat) : St := hd [(0, .sl m 7 (xs.map Want.c)), (1, .sl m' 7 (xs.map Want.c)), (5, .int .i64 i)] [] 0

theorem law118 (xs : List Want) (hl : xs.length ≤ 1048576) : F 118 [.sl .bor 7 (xs.map Want.c), .sl .bor 7 (xs.map Want.c)] [] = some (.bool true, []) := by
  refine F_run fn118 rfl ?_
  simp [c118]
  refine (loop_list xs (fun i (_ : Unit) => headWWant .bor .bor xs i) (fun _ _ => True) (fun _ _ _ => (.bool true, [])) (fun acc Y _ => ?_) (fun i a r acc Y ha hi hr _ hY => ?_) () ?_ trivial ?_).trans rfl
  · simp [headWWant, c118b0]
  · have hw : IntKind.i64.wrap ((i : Int) + 1) = (i : Int) + 1 := i64w (by omega) (by omega)
    obtain ⟨_, hg⟩ := List.getElem?_eq_some_iff.1 ha
    have he := eqsWant a
    simp only [Want.c] at he
    simp [headWWant, c118b0, hi, hg, he]
    refine hY () _ trivial ?_
    simp [headWWant, hw]
  · simp [headWWant]
  · unfold big; omega

theorem eqsRun (a : Run) : eqCells [.s, .i, .s, .i, .i, .i, .i, .i, .i, .i, .i] a.c a.c = some true := by simp [eqCells, eqCell]

def headWRun (m m' : Md) (xs : List Run) (i : Nat) : St := hd [(0, .sl m 11 (xs.map Run.c)), (1, .sl m' 11 (xs.map Run.c)), (5, .int .i64 i)] [] 0

theorem eqsAsk (a : Ask) : eqCells [.s, .s, .i, .i] a.c a.c = some true := by simp [eqCells, eqCell]

def headWAsk (m m' : Md) (xs : List Ask) (i : Nat) : St := hd [(0, .sl m 4 (xs.map Ask.c)), (1, .sl m' 4 (xs.map Ask.c)), (5, .int .i64 i)] [] 0

end Go.Proofs.Ytgdjnflnfeakjaa

namespace Go.Proofs.Ytgdjnflnfeakjaa
open Go
set_option linter.unusedSimpArgs false
set_option maxRecDepth 100000

/-- Two parcels alike. -/
theorem law143 (p : Parcel) (hp : p.small) : F 143 [.agg (p.c .bor), .agg (p.c .bor)] [] = some (.bool true, []) := by
  refine F_run fn143 rfl ?_
  have w := law118 p.wants hp.wants
  have e1 : sEq p.berth p.berth = true := (sEq_iff _ _).2 rfl
  have e2 : sEq p.hold p.hold = true := (sEq_iff _ _).2 rfl
  have e3 : sEq p.copy p.copy = true := (sEq_iff _ _).2 rfl
  simp [c143, w, e1, e2, e3]

end Go.Proofs.Ytgdjnflnfeakjaa

namespace Go.Proofs.Ytgdjnflnfeakjaa
open Go
set_option linter.unusedSimpArgs false
set_option maxRecDepth 100000

def Land.zero : Land := ⟨0, [], []⟩
def zeroL : List AV := [.int .i64 0, .sl .own 5 [], .sl .own 3 []]

def head122 (l : Land) (m : Md) (i : Nat) (acc : List Place) : St :=
  hd [(1, .ptr 0 0 0), (2, .ptr 1 0 0), (3, ownVi 2 3 (acc.map (Place.c .own))), (11, .sl .bor 3 (l.places.map (Place.c m))), (12, .int .i64 l.places.length), (13, .int .i64 i)]
    (.box [.int .i64 l.time, .ref (if acc = [] then 2 else 3), .sl .bor 3 (l.places.map (Place.c m))] :: .box zeroL :: (ownH 3 (acc.map (Place.c .own)) ++ [.arr 5 (l.grants.map Grant.c)])) 0

theorem law122 (l : Land) (m : Md) (hl : l.small) : F 122 [.agg (l.c .bor m)] [] = some (.agg (l.c .own .own), []) := by
  refine F_run fn122 rfl ?_
  obtain ⟨h1, h2, h3⟩ := hl
  have e1 : l.grants.length * 64 ≤ 140737488355328 := by omega
  have f1 : l.grants.length ≤ 140737488355328 := by omega
  simp [c122, takeRows, e1, f1]
  refine (loop_list l.places (fun i (acc : List Place) => head122 l m i acc) (fun i acc => acc.length = i) (fun _ r acc => (.agg (({ l with places := acc ++ r } : Land).c .own .own), [])) (fun acc Y hacc => ?_) (fun i a r acc Y ha hi hr hacc hY => ?_) [] ?_ rfl ?_).trans ?_
  · rcases acc with _ | ⟨x, acc⟩
    · simp [head122, c122b0, zeroL]
    · simp [head122, c122b0, zeroL]
  · have hw : IntKind.i64.wrap ((i : Int) + 1) = (i : Int) + 1 := i64w (by omega) (by omega)
    obtain ⟨_, hg⟩ := List.getElem?_eq_some_iff.1 ha
    have hs := (h3 a (List.mem_of_getElem? ha)).wants
    have e2 : a.wants.length * 72 ≤ 140737488355328 := by omega
    have f2 : a.wants.length ≤ 140737488355328 := by omega
    have hb3 : (acc.length + 1) * 48 ≤ 140737488355328 := by omega
    have hb4 : acc.length + 1 ≤ 140737488355328 := by omega
    have hY' := fun s' h => hY (acc ++ [a]) s' (by simp [hacc]) h
    rcases acc with _ | ⟨x, acc⟩
    · simp [head122, c122b0, zeroL, hi, hg, takeRows, e2, f2]
      exact (hY' _ (by simp [head122, hw, zeroL])).trans (by simp)
    · simp at hb3 hb4
      simp [head122, c122b0, zeroL, hi, hg, takeRows, e2, f2, hb3, hb4]
      exact (hY' _ (by simp [head122, hw, zeroL])).trans (by simp)
  · simp [head122, zeroL]
  · unfold big; omega
  · simp

def head121 (l : Land) (m : Md) (i : Nat) (acc : List Place) : St :=
  hd [(1, .ptr 0 0 0), (2, .ptr 1 0 0), (3, .ptr 2 0 0), (4, .int .i64 i)]
    (.box (l.c .bor m) :: .box zeroL :: .box [.int .i64 l.time, .ref 3, ownVi 4 3 (acc.map (Place.c .own))] :: .arr 5 (l.grants.map Grant.c) :: ownH 3 (acc.map (Place.c .own))) 0

theorem law121 (l : Land) (m : Md) (hl : l.small) : F 121 [.agg (l.c .bor m)] [] = some (.agg (l.c .own .own), []) := by
  refine F_run fn121 rfl ?_
  obtain ⟨h1, h2, h3⟩ := hl
  have e1 : l.grants.length * 64 ≤ 140737488355328 := by omega
  have f1 : l.grants.length ≤ 140737488355328 := by omega
  simp [c121, takeRows, e1, f1]
  refine (loop_list l.places (fun i (acc : List Place) => head121 l m i acc) (fun i acc => acc.length = i) (fun _ r acc => (.agg (({ l with places := acc ++ r } : Land).c .own .own), [])) (fun acc Y hacc => ?_) (fun i a r acc Y ha hi hr hacc hY => ?_) [] ?_ rfl ?_).trans ?_
  · rcases acc with _ | ⟨x, acc⟩
    · simp [head121, c121b0, zeroL]
    · simp [head121, c121b0, zeroL]
  · have hw : IntKind.i64.wrap ((i : Int) + 1) = (i : Int) + 1 := i64w (by omega) (by omega)
    obtain ⟨_, hg⟩ := List.getElem?_eq_some_iff.1 ha
    have hs := (h3 a (List.mem_of_getElem? ha)).wants
    have e2 : a.wants.length * 72 ≤ 140737488355328 := by omega
    have f2 : a.wants.length ≤ 140737488355328 := by omega
    have hb3 : (acc.length + 1) * 48 ≤ 140737488355328 := by omega
    have hb4 : acc.length + 1 ≤ 140737488355328 := by omega
    have hY' := fun s' h => hY (acc ++ [a]) s' (by simp [hacc]) h
    rcases acc with _ | ⟨x, acc⟩
    · simp [head121, c121b0, zeroL, hi, hg, takeRows, e2, f2]
      exact (hY' _ (by simp [head121, hw, zeroL])).trans (by simp)
    · simp at hb3 hb4
      simp [head121, c121b0, zeroL, hi, hg, takeRows, e2, f2, hb3, hb4]
      exact (hY' _ (by simp [head121, hw, zeroL])).trans (by simp)
  · simp [head121, zeroL]
  · unfold big; omega
  · simp

def told (p : Place) : Parcel := ⟨1, p.berth, p.seen, p.wants, ⟨#[]⟩, ⟨#[]⟩, 0⟩
def landTick (l : Land) : Land × List Parcel :=
  if landOk l then (if l.time = 2000000 then (l, []) else ({ l with time := l.time + 2 }, l.places.map told)) else (.zero, [])

theorem landOk_time {l : Land} (h : landOk l = true) : 0 ≤ l.time ∧ l.time ≤ 2000000 := by
  unfold landOk at h
  simp only [Bool.and_eq_true] at h
  have := h.1
  simpa [inR] using this

def n41 (acc : List Parcel) : Nat := if acc = [] then 2 else 3
def head41 (l : Land) (i : Nat) (acc : List Parcel) : St :=
  hd [(1, .ptr 0 0 0), (2, .ptr 1 0 0), (4, ownVi 2 7 (acc.map (Parcel.c .own))), (22, .ref (n41 acc)), (23, .int .i64 l.places.length), (24, .int .i64 i)]
    (.box [.int .i64 (l.time + 2), .ref (n41 acc + 1), .ref (n41 acc)] :: .box zeroL :: (ownH 7 (acc.map (Parcel.c .own)) ++ [.arr 3 (l.places.map (Place.c .own)), .arr 5 (l.grants.map Grant.c)])) 0

theorem law41 (l : Land) (m : Md) (hl : l.small) : F 41 [.agg (l.c .bor m)] [] = some (.tup [.agg ((landTick l).1.c .own .own), .sl .own 7 ((landTick l).2.map (Parcel.c .own))], []) := by
  refine F_run fn41 rfl ?_
  have w1 := law23 l m hl
  have w2 := law122 l m hl
  simp only [Land.c] at w1 w2
  obtain ⟨h1, h2, h3⟩ := hl
  unfold landTick
  simp [c41, w1]
  cases hv : landOk l <;> simp
  · simp [Land.zero]
  have ht := landOk_time hv
  simp [w2]
  by_cases hx : l.time = 2000000
  · simp [hx]
  have hw2 : IntKind.i64.wrap (l.time + 2) = l.time + 2 := i64w (by omega) (by omega)
  simp [hx, hw2]
  refine (loop_list l.places (fun i (acc : List Parcel) => head41 l i acc) (fun i acc => acc.length = i) (fun _ r acc => (.tup [.agg (({ l with time := l.time + 2 } : Land).c .own .own), .sl .own 7 ((acc ++ r.map told).map (Parcel.c .own))], [])) (fun acc Y hacc => ?_) (fun i a r acc Y ha hi hr hacc hY => ?_) [] ?_ rfl ?_).trans ?_
  · rcases acc with _ | ⟨x, acc⟩
    · simp [head41, c41b0, zeroL, n41]
    · simp [head41, c41b0, zeroL, n41]
  · have hw : IntKind.i64.wrap ((i : Int) + 1) = (i : Int) + 1 := i64w (by omega) (by omega)
    obtain ⟨_, hg⟩ := List.getElem?_eq_some_iff.1 ha
    have hs := (h3 a (List.mem_of_getElem? ha)).wants
    have e2 : a.wants.length * 72 ≤ 140737488355328 := by omega
    have f2 : a.wants.length ≤ 140737488355328 := by omega
    have hb3 : (acc.length + 1) * 96 ≤ 140737488355328 := by omega
    have hb4 : acc.length + 1 ≤ 140737488355328 := by omega
    have hY' := fun s' h => hY (acc ++ [told a]) s' (by simp [hacc]) h
    rcases acc with _ | ⟨x, acc⟩
    · simp [head41, c41b0, zeroL, n41, hi, hg, takeRows, e2, f2]
      exact (hY' _ (by simp [head41, hw, zeroL, n41, told])).trans (by simp)
    · simp at hb3 hb4
      simp [head41, c41b0, zeroL, n41, hi, hg, takeRows, e2, f2, hb3, hb4]
      exact (hY' _ (by simp [head41, hw, zeroL, n41, told])).trans (by simp)
  · simp [head41, zeroL, n41]
  · unfold big; omega
  · simp

def head44 (l : Land) (i : Nat) (acc : List Parcel) : St :=
  hd [(2, .ptr 0 0 0), (4, .ref 1), (5, .ptr 2 0 0), (6, .int .i64 i)]
    [.box zeroL, .arr 7 (acc.map (Parcel.c .own)), .box [.int .i64 (l.time + 2), .ref 3, .ref 4], .arr 5 (l.grants.map Grant.c), .arr 3 (l.places.map (Place.c .own))] 0

theorem law44 (l : Land) (m : Md) (hl : l.small) : F 44 [.agg (l.c .bor m)] [] = some (.tup [.agg ((landTick l).1.c .own .own), .sl .own 7 ((landTick l).2.map (Parcel.c .own))], []) := by
  refine F_run fn44 rfl ?_
  have w1 := law24 l m hl
  have w2 := law121 l m hl
  simp only [Land.c] at w1 w2
  obtain ⟨h1, h2, h3⟩ := hl
  unfold landTick
  simp [c44, w1]
  cases hv : landOk l <;> simp
  · simp [Land.zero]
  have ht := landOk_time hv
  simp [w2]
  by_cases hx : l.time = 2000000
  · simp [hx]
  have hx2 : ¬ (2000000 ≤ l.time) := by omega
  have hw2 : IntKind.i64.wrap (l.time + 2) = l.time + 2 := i64w (by omega) (by omega)
  simp [hx, hx2, hw2]
  refine (loop_list l.places (fun i (acc : List Parcel) => head44 l i acc) (fun i acc => acc.length = i) (fun _ r acc => (.tup [.agg (({ l with time := l.time + 2 } : Land).c .own .own), .sl .own 7 ((acc ++ r.map told).map (Parcel.c .own))], [])) (fun acc Y hacc => ?_) (fun i a r acc Y ha hi hr hacc hY => ?_) [] ?_ rfl ?_).trans ?_
  · simp [head44, c44b0, zeroL]
  · have hw : IntKind.i64.wrap ((i : Int) + 1) = (i : Int) + 1 := i64w (by omega) (by omega)
    obtain ⟨_, hg⟩ := List.getElem?_eq_some_iff.1 ha
    have hs := (h3 a (List.mem_of_getElem? ha)).wants
    have e2 : a.wants.length * 72 ≤ 140737488355328 := by omega
    have f2 : a.wants.length ≤ 140737488355328 := by omega
    have hb3 : (acc.length + 1) * 96 ≤ 140737488355328 := by omega
    have hb4 : acc.length + 1 ≤ 140737488355328 := by omega
    have hY' := fun s' h => hY (acc ++ [told a]) s' (by simp [hacc]) h
    simp [head44, c44b0, zeroL, hi, hg, takeRows, e2, f2, hb3, hb4]
    exact (hY' _ (by simp [head44, hw, zeroL, told])).trans (by simp)
  · simp [head44, zeroL]
  · unfold big; omega
  · simp
end Go.Proofs.Ytgdjnflnfeakjaa

namespace Go.Proofs.Ytgdjnflnfeakjaa
open Go
set_option linter.unusedSimpArgs false

section
variable {α : Type} (key : α → T)

/-- How many stand ahead of this key. -/
def ltCount (b : T) : List α → Nat
  | [] => 0
  | y :: ys => if sLt (key y) b then ltCount b ys + 1 else 0

/-- In its place; what has its key goes. -/
def putBy (x : α) : List α → List α
  | [] => [x]
  | y :: ys => if sLt (key y) (key x) then y :: putBy x ys else if sEq (key y) (key x) then x :: ys else x :: y :: ys

theorem ltCount_le (b : T) : ∀ l : List α, ltCount key b l ≤ l.length
  | [] => Nat.le_refl _
  | y :: ys => by
    unfold ltCount
    have := ltCount_le b ys
    split <;> simp <;> omega

def hitAt (b : T) (l : List α) : Bool := match l[ltCount key b l]? with
  | some y => sEq (key y) b
  | none => false

theorem putBy_take (x : α) : ∀ l : List α, putBy key x l = l.take (ltCount key (key x) l) ++ x :: l.drop (if hitAt key (key x) l then ltCount key (key x) l + 1 else ltCount key (key x) l)
  | [] => rfl
  | y :: ys => by
    by_cases h1 : sLt (key y) (key x) = true
    · have e1 : ltCount key (key x) (y :: ys) = ltCount key (key x) ys + 1 := by simp [ltCount, h1]
      have e2 : hitAt key (key x) (y :: ys) = hitAt key (key x) ys := by simp [hitAt, e1]
      rw [putBy, if_pos h1, putBy_take x ys, e1, e2]
      cases hitAt key (key x) ys <;> simp
    · have e1 : ltCount key (key x) (y :: ys) = 0 := by simp [ltCount, h1]
      have e2 : hitAt key (key x) (y :: ys) = sEq (key y) (key x) := by simp [hitAt, e1]
      rw [putBy, if_neg h1, e1, e2]
      cases sEq (key y) (key x) <;> simp

/-- What the loop that counts sees. -/
theorem ltCount_at {b : T} : ∀ {l : List α} {i : Nat} {y : α}, i < ltCount key b l → l[i]? = some y → sLt (key y) b = true
  | [], i, y, h, _ => by simp [ltCount] at h
  | z :: l, i, y, h, hy => by
    unfold ltCount at h
    split at h
    case isFalse => omega
    rename_i hz
    cases i with
    | zero => simp at hy; subst hy; exact hz
    | succ i => exact ltCount_at (l := l) (i := i) (by omega) (by simpa using hy)
theorem ltCount_stop {b : T} : ∀ {l : List α} {y : α}, l[ltCount key b l]? = some y → sLt (key y) b = false
  | [], y, h => by simp [ltCount] at h
  | z :: l, y, h => by
    by_cases hz : sLt (key z) b = true
    · have e1 : ltCount key b (z :: l) = ltCount key b l + 1 := by simp [ltCount, hz]
      rw [e1] at h
      exact ltCount_stop (by simpa using h)
    · have e1 : ltCount key b (z :: l) = 0 := by simp [ltCount, hz]
      rw [e1] at h
      simp at h
      subst h
      simpa using hz

theorem putBy_len (x : α) : ∀ l : List α, (putBy key x l).length ≤ l.length + 1
  | [] => Nat.le_refl _
  | y :: ys => by
    have := putBy_len x ys
    unfold putBy
    split
    · simp; omega
    · split <;> simp

theorem mem_putBy {x : α} : ∀ {l : List α} {z : α}, z ∈ putBy key x l → z = x ∨ z ∈ l
  | [], z, h => by simp [putBy] at h; exact .inl h
  | y :: ys, z, h => by
    unfold putBy at h
    split at h
    · rcases List.mem_cons.1 h with h | h
      · exact .inr (h ▸ List.mem_cons_self)
      · exact (mem_putBy h).imp id (List.mem_cons_of_mem _)
    · split at h
      · exact (List.mem_cons.1 h).imp id (List.mem_cons_of_mem _)
      · exact List.mem_cons.1 h

/-- Nobody has the key: a place more. -/
def Lacks (b : T) (l : List α) : Prop := ∀ y ∈ l, key y ≠ b

theorem putBy_perm {x : α} : ∀ {l : List α}, Lacks key (key x) l → (putBy key x l).Perm (l ++ [x])
  | [], _ => .refl _
  | y :: ys, h => by
    have h2 : Lacks key (key x) ys := fun z hz => h z (List.mem_cons_of_mem _ hz)
    unfold putBy
    split
    · exact (putBy_perm h2).cons y
    · rw [if_neg (by rw [sEq_ne (h y List.mem_cons_self)]; simp)]
      exact (List.perm_append_comm (l₁ := [x]) (l₂ := y :: ys))

theorem putBy_asc {x : α} : ∀ {l : List α}, Asc key l → Asc key (putBy key x l)
  | [], _ => List.pairwise_singleton _ _
  | y :: ys, h => by
    have h1 := List.pairwise_cons.1 h
    unfold putBy
    split
    · rename_i hlt
      refine List.pairwise_cons.2 ⟨fun z hz => ?_, putBy_asc h1.2⟩
      rcases mem_putBy key hz with rfl | hz
      · exact hlt
      · exact h1.1 z hz
    · rename_i hlt
      split
      · rename_i he
        have e := (sEq_iff _ _).1 he
        exact List.pairwise_cons.2 ⟨fun z hz => by rw [← e]; exact h1.1 z hz, h1.2⟩
      · rename_i he
        have hne : key y ≠ key x := fun e => he ((sEq_iff _ _).2 e)
        have hxy : sLt (key x) (key y) = true := by
          cases q : sLt (key x) (key y) with
          | true => rfl
          | false => exact absurd (sLt_total (by simpa using hlt) q) hne
        refine List.pairwise_cons.2 ⟨fun z hz => ?_, h⟩
        rcases List.mem_cons.1 hz with rfl | hz
        · exact hxy
        · exact sLt_trans hxy (h1.1 z hz)

/-- Somebody has it. -/
theorem putBy_set {x y : α} : ∀ {l : List α} {i : Nat}, Asc key l → l[i]? = some y → key y = key x → putBy key x l = l.set i x
  | [], i, _, h, _ => by simp at h
  | z :: l, i, ha, h, he => by
    have h1 := List.pairwise_cons.1 ha
    cases i with
    | zero =>
      simp at h
      subst h
      rw [putBy, if_neg (by rw [he, sLt_irrefl]; simp), if_pos (by rw [he]; exact sEq_self _)]
      rfl
    | succ i =>
      have hl : l[i]? = some y := by simpa using h
      have := h1.1 y (List.mem_of_getElem? hl)
      rw [he] at this
      rw [putBy, if_pos this, putBy_set h1.2 hl he]
      rfl

theorem asc_inj {l : List α} (h : Asc key l) {i j : Nat} {x y : α} (hi : l[i]? = some x) (hj : l[j]? = some y) (he : key x = key y) : i = j := by
  have hpw := List.pairwise_iff_getElem.1 h
  obtain ⟨li, xi⟩ := List.getElem?_eq_some_iff.1 hi
  obtain ⟨lj, yj⟩ := List.getElem?_eq_some_iff.1 hj
  rcases Nat.lt_trichotomy i j with q | q | q
  · have := hpw i j li lj q
    rw [xi, yj, he, sLt_irrefl] at this
    cases this
  · exact q
  · have := hpw j i lj li q
    rw [xi, yj, he, sLt_irrefl] at this
    cases this
end

/-! ### Sorting -/
theorem keysApart_of {c : Nat} : ∀ {xs : List (List AV)}, Diff c xs → (∀ r ∈ xs, ∃ s, keyAt c r = some s) → keysApart c xs = true
  | [], _, _ => rfl
  | r :: rs, h, hk => by
    have h1 := List.pairwise_cons.1 h
    simp only [keysApart, Bool.and_eq_true, List.all_eq_true, Bool.not_eq_true']
    obtain ⟨s, hs⟩ := hk r List.mem_cons_self
    exact ⟨by rw [hs]; rfl, fun x hx => sEq_ne (h1.1 x hx), keysApart_of h1.2 fun x hx => hk x (List.mem_cons_of_mem _ hx)⟩

theorem sort_typed {α : Type} (f : α → List AV) (key : α → T) (c : Nat) (hf : ∀ a, keyAt c (f a) = some (key a)) {xs ys : List α} (hp : ys.Perm xs) (ha : Asc key ys) : keysApart c (xs.map f) = true ∧ sortRows c (xs.map f) = ys.map f := by
  have hd : Diff c (ys.map f) := by
    unfold Diff
    rw [List.pairwise_map]
    refine ha.imp fun {a b} h => ?_
    rw [hf, hf]
    exact sLt_ne h
  have hd2 : Diff c (xs.map f) := (List.Perm.pairwise_iff (fun h e => h e.symm) (hp.map f)).1 hd
  have hs : (ys.map f).Pairwise (fun a b => rowLt c a b = true) := by
    rw [List.pairwise_map]
    refine ha.imp fun {a b} h => ?_
    unfold rowLt
    rw [hf, hf]
    exact h
  refine ⟨keysApart_of hd2 fun r hr => ?_, sorted_one ((sortRows_perm c _).trans (hp.map f).symm) (sortRows_sorted hd2) hs⟩
  obtain ⟨a, _, rfl⟩ := List.mem_map.1 hr
  exact ⟨_, hf a⟩
end Go.Proofs.Ytgdjnflnfeakjaa

namespace Go.Proofs.Ytgdjnflnfeakjaa
open Go
set_option linter.unusedSimpArgs false
set_option maxRecDepth 100000

def szGrant (a : Grant) (l : Int) : Int := offs l [a.hold.size, a.berth.size, a.copy.size]
def szGrantGo : List Grant → Int → Int
  | [], l => l
  | w :: r, l => if szGrant w l < 0 then -1 else szGrantGo r (szGrant w l)
def szGrants (ws : List Grant) (l : Int) : Int := if off l ws.length < 0 then -1 else szGrantGo ws (off l ws.length)

def headToGrant (ws : List Grant) (i : Nat) : St := hd [(0, .sl .bor 5 (ws.map Grant.c)), (3, .ref 0), (4, .int .i64 i)] [.arr 5 (fillU Grant.c [.str ⟨#[]⟩, .str ⟨#[]⟩, .str ⟨#[]⟩, .int .i64 0, .int .i64 0] ws i)] 0

def headSzGrant (ws : List Grant) (l : Int) (i : Nat) : St := hd [(0, .sl .bor 5 (ws.map Grant.c)), (1, .int .i64 l), (5, .int .i64 i)] [] 0

def headEqGrant (ws : List Grant) (i : Nat) : St := hd [(0, .sl .bor 5 (ws.map Grant.c)), (1, .sl .bor 5 (ws.map Grant.c)), (5, .int .i64 i)] [] 0

theorem szGrant_le {w : Grant} {l : Int} (hw : w.wf) (h0 : 0 ≤ l) (hx : l ≤ 1048576) (h : 0 ≤ szGrant w l) : szGrant w l ≤ l := by
  unfold szGrant offs offs offs offs at *
  split at h
  · simp at h
  · rename_i h1
    have k1 := off_le h0 hw.hold (by omega) hx
    rw [if_neg h1]
    split at h
    · simp at h
    · rename_i h2
      have k2 := off_le (l := off l w.hold.size) (by omega) hw.berth (by omega) (by omega)
      rw [if_neg h2]
      split at h
      · simp at h
      · rename_i h3
        have k3 := off_le (l := off (off l w.hold.size) w.berth.size) (by omega) hw.copy (by omega) (by omega)
        rw [if_neg h3]
        omega

theorem szGrants_le {ws : List Grant} {l : Int} (hw : ListWf Grant.wf ws) (h0 : 0 ≤ l) (hx : l ≤ 1048576) (h : 0 ≤ szGrants ws l) : szGrants ws l ≤ l ∧ ws.length ≤ 1048576 := by
  have go : ∀ (ws : List Grant) (l : Int), (∀ w ∈ ws, w.wf) → 0 ≤ l → l ≤ 1048576 → 0 ≤ szGrantGo ws l → szGrantGo ws l ≤ l := by
    intro ws
    induction ws with
    | nil => intro l _ _ _ _; exact Int.le_refl _
    | cons w r ih =>
      intro l hw h0 hx h
      simp only [szGrantGo] at h ⊢
      split at h
      · simp at h
      · rename_i h1
        rw [if_neg h1]
        have k1 := szGrant_le (hw w List.mem_cons_self) h0 hx (by omega)
        have := ih _ (fun x hx => hw x (List.mem_cons_of_mem _ hx)) (by omega) (by omega) h
        omega
  unfold szGrants at *
  split at h
  · simp at h
  · rename_i h1
    have k1 := off_le h0 hw.len (by omega) hx
    rw [if_neg h1]
    have := go ws _ hw.all (by omega) (by omega) h
    omega

def zeroPlace : List AV := [.str ⟨#[]⟩, .int .i64 0, .sl .own 7 []]

def headToPlace (m : Md) (ws : List Place) (i : Nat) : St := hd [(0, .sl .bor 3 (ws.map (Place.c m))), (3, .ref 0), (4, .int .i64 i)] [.arr 3 (fillU (Place.c .own) zeroPlace ws i)] 0

def headEqPlace (m m' : Md) (ws : List Place) (i : Nat) : St := hd [(0, .sl .bor 3 (ws.map (Place.c m))), (1, .sl .bor 3 (ws.map (Place.c m'))), (5, .int .i64 i)] [] 0

noncomputable def szPlace (m : Md) (p : Place) (l : Int) : Int := match F 147 [.agg (p.c m), .int .i64 l] [] with
  | some (.int .i64 r, []) => r
  | _ => -1
noncomputable def szPlaceGo : List Place → Int → Int
  | [], l => l
  | w :: r, l => if szPlace .bor w l < 0 then -1 else szPlaceGo r (szPlace .bor w l)
noncomputable def szPlaces (ws : List Place) (l : Int) : Int := if off l ws.length < 0 then -1 else szPlaceGo ws (off l ws.length)

def headSzPlace (m : Md) (ws : List Place) (l : Int) (i : Nat) : St := hd [(0, .sl .bor 3 (ws.map (Place.c m))), (1, .int .i64 l), (5, .int .i64 i)] [] 0

end Go.Proofs.Ytgdjnflnfeakjaa

namespace Go.Proofs.Ytgdjnflnfeakjaa
open Go
set_option linter.unusedSimpArgs false
set_option maxRecDepth 100000

theorem mid_get {α : Type} {l r : List α} {a : α} {i : Nat} (h : l.length = i) : (l ++ a :: r)[i]? = some a := by subst h; simp
theorem mid_at {α : Type} {l r : List α} {a : α} {i : Nat} (h : l.length = i) (hp : i < (l ++ a :: r).length) : (l ++ a :: r)[i] = a := by subst h; simp
theorem mid_set {α : Type} {l r : List α} {a b : α} {i : Nat} (h : l.length = i) : (l ++ a :: r).set i b = l ++ b :: r := by subst h; simp

/-! ### Grants -/
def markGrant (k : Int) : Grant := ⟨markText k, markText (k + 1), markText (k + 2), k + 3, k + 4⟩
def marksGrant : Nat → Int → List Grant
  | 0, _ => []
  | n + 1, k => markGrant k :: marksGrant n (k + 5)
theorem marksGrant_len : ∀ (n : Nat) (k : Int), (marksGrant n k).length = n
  | 0, _ => rfl
  | n + 1, k => by simp [marksGrant, marksGrant_len n]

def headMkGrant (ws done : List Grant) (k : Int) (i : Nat) : St := hd [(0, .ref 0), (1, .int .i64 k), (5, .int .i64 i)] [.arr 5 (done.map Grant.c ++ (ws.drop i).map Grant.c)] 1

def headHlGrant (ws : List Grant) (k : Int) (i : Nat) : St := hd [(0, .sl .bor 5 (ws.map Grant.c)), (1, .int .i64 k), (5, .int .i64 i)] [] 0

theorem marksGrant_get : ∀ {n : Nat} {k : Int} {i : Nat} {a : Grant}, (marksGrant n k)[i]? = some a → a = markGrant (k + 5 * i)
  | 0, _, _, _, h => by simp [marksGrant] at h
  | n + 1, k, 0, a, h => by simp [marksGrant] at h; simp [h]
  | n + 1, k, i + 1, a, h => by
    simp only [marksGrant, List.getElem?_cons_succ] at h
    have := marksGrant_get h
    rw [this]
    congr 1
    push_cast
    omega

/-! ### Places -/
def markPlace (p : Place) (k : Int) : Place := ⟨markText k, k + 1, marksWant p.wants.length (k + 2)⟩
def marksPlace : List Place → Int → List Place
  | [], _ => []
  | p :: r, k => markPlace p k :: marksPlace r (k + 2 + 7 * p.wants.length)
def markPlaceK : List Place → Int → Int
  | [], k => k
  | p :: r, k => markPlaceK r (k + 2 + 7 * p.wants.length)

theorem markPlaceK_le : ∀ (ws : List Place) (k : Int), (∀ p ∈ ws, p.small) → markPlaceK ws k ≤ k + ws.length * 7340034
  | [], k, _ => by simp [markPlaceK]
  | p :: r, k, h => by
    have h1 := (h p List.mem_cons_self).wants
    have h2 := markPlaceK_le r (k + 2 + 7 * p.wants.length) (fun q hq => h q (List.mem_cons_of_mem _ hq))
    simp only [markPlaceK, List.length_cons]
    push_cast
    omega
theorem le_markPlaceK : ∀ (ws : List Place) (k : Int), k ≤ markPlaceK ws k
  | [], k => Int.le_refl _
  | p :: r, k => by
    have := le_markPlaceK r (k + 2 + 7 * p.wants.length)
    simp only [markPlaceK]
    omega

def headMkPlace (ws done : List Place) (k : Int) (i : Nat) : St := hd [(0, .ref 0), (1, .int .i64 k), (5, .int .i64 i)] [.arr 3 (done.map (Place.c .own) ++ (ws.drop i).map (Place.c .own))] 1

theorem marksPlace_len : ∀ (ws : List Place) (k : Int), (marksPlace ws k).length = ws.length
  | [], _ => rfl
  | p :: r, k => by simp [marksPlace, marksPlace_len r]
theorem marksPlace_get : ∀ {ws : List Place} {k : Int} {i : Nat} {a : Place}, ws[i]? = some a → (marksPlace ws k)[i]? = some (markPlace a (markPlaceK (ws.take i) k))
  | [], _, _, _, h => by simp at h
  | p :: r, k, 0, a, h => by simp at h; subst h; simp [marksPlace, markPlaceK]
  | p :: r, k, i + 1, a, h => by
    simp only [List.getElem?_cons_succ] at h
    simp only [marksPlace, List.getElem?_cons_succ, List.take_succ_cons, markPlaceK]
    exact marksPlace_get h
theorem markPlaceK_take : ∀ {ws : List Place} {k : Int} {i : Nat} {a : Place}, ws[i]? = some a → markPlaceK (ws.take (i + 1)) k = markPlaceK (ws.take i) k + 2 + 7 * a.wants.length
  | [], _, _, _, h => by simp at h
  | p :: r, k, 0, a, h => by simp at h; subst h; simp [markPlaceK]
  | p :: r, k, i + 1, a, h => by
    simp only [List.getElem?_cons_succ] at h
    simp only [List.take_succ_cons, markPlaceK]
    exact markPlaceK_take h
theorem markPlaceK_le_all : ∀ (ws : List Place) (k : Int) (i : Nat), markPlaceK (ws.take i) k ≤ markPlaceK ws k
  | [], k, i => by simp [markPlaceK]
  | p :: r, k, 0 => by simp only [List.take_zero]; exact le_markPlaceK (p :: r) k
  | p :: r, k, i + 1 => by simp only [List.take_succ_cons, markPlaceK]; exact markPlaceK_le_all r _ i

def headHlPlace (xs : List Place) (k : Int) (i : Nat) : St := hd [(0, .sl .bor 3 (xs.map (Place.c .own))), (1, .int .i64 k), (5, .int .i64 i)] [] 0

/-! ### Books -/
def markLand (l : Land) (k : Int) : Land := ⟨l.time, marksGrant l.grants.length k, marksPlace l.places (k + 5 * l.grants.length)⟩
def markLandK (l : Land) (k : Int) : Int := markPlaceK l.places (k + 5 * l.grants.length)
def Land.refs (n : Nat) (l : Land) : List AV := [.int .i64 l.time, .ref n, .ref (n + 1)]
def Land.arrs (l : Land) : List AO := [.arr 5 (l.grants.map Grant.c), .arr 3 (l.places.map (Place.c .own))]

theorem markLandK_le {l : Land} {k : Int} (hl : l.small) : markLandK l k ≤ k + 7700000000000 := by
  have h1 := markPlaceK_le l.places (k + 5 * l.grants.length) hl.each
  have h2 := hl.grants
  have h3 := hl.places
  unfold markLandK
  omega
theorem le_markLandK (l : Land) (k : Int) : k ≤ markLandK l k := by
  have := le_markPlaceK l.places (k + 5 * l.grants.length)
  unfold markLandK
  omega

/-! ### Parcels -/
def markParcel (p : Parcel) (k : Int) : Parcel :=
  ⟨k, markText (k + 1), k + 2, marksWant p.wants.length (k + 3), markText (k + 3 + 7 * p.wants.length), markText (k + 4 + 7 * p.wants.length), k + 5 + 7 * p.wants.length⟩
def marksParcel : List Parcel → Int → List Parcel
  | [], _ => []
  | p :: r, k => markParcel p k :: marksParcel r (k + 6 + 7 * p.wants.length)
def markParcelK : List Parcel → Int → Int
  | [], k => k
  | p :: r, k => markParcelK r (k + 6 + 7 * p.wants.length)
theorem markParcelK_le : ∀ (ws : List Parcel) (k : Int), (∀ p ∈ ws, p.small) → markParcelK ws k ≤ k + ws.length * 7340038
  | [], k, _ => by simp [markParcelK]
  | p :: r, k, h => by
    have h1 := (h p List.mem_cons_self).wants
    have h2 := markParcelK_le r (k + 6 + 7 * p.wants.length) (fun q hq => h q (List.mem_cons_of_mem _ hq))
    simp only [markParcelK, List.length_cons]
    push_cast
    omega
theorem le_markParcelK : ∀ (ws : List Parcel) (k : Int), k ≤ markParcelK ws k
  | [], k => Int.le_refl _
  | p :: r, k => by
    have := le_markParcelK r (k + 6 + 7 * p.wants.length)
    simp only [markParcelK]
    omega
theorem marksParcel_len : ∀ (ws : List Parcel) (k : Int), (marksParcel ws k).length = ws.length
  | [], _ => rfl
  | p :: r, k => by simp [marksParcel, marksParcel_len r]
theorem marksParcel_get : ∀ {ws : List Parcel} {k : Int} {i : Nat} {a : Parcel}, ws[i]? = some a → (marksParcel ws k)[i]? = some (markParcel a (markParcelK (ws.take i) k))
  | [], _, _, _, h => by simp at h
  | p :: r, k, 0, a, h => by simp at h; subst h; simp [marksParcel, markParcelK]
  | p :: r, k, i + 1, a, h => by
    simp only [List.getElem?_cons_succ] at h
    simp only [marksParcel, List.getElem?_cons_succ, List.take_succ_cons, markParcelK]
    exact marksParcel_get h
theorem markParcelK_take : ∀ {ws : List Parcel} {k : Int} {i : Nat} {a : Parcel}, ws[i]? = some a → markParcelK (ws.take (i + 1)) k = markParcelK (ws.take i) k + 6 + 7 * a.wants.length
  | [], _, _, _, h => by simp at h
  | p :: r, k, 0, a, h => by simp at h; subst h; simp [markParcelK]
  | p :: r, k, i + 1, a, h => by
    simp only [List.getElem?_cons_succ] at h
    simp only [List.take_succ_cons, markParcelK]
    exact markParcelK_take h
theorem markParcelK_le_all : ∀ (ws : List Parcel) (k : Int) (i : Nat), markParcelK (ws.take i) k ≤ markParcelK ws k
  | [], k, i => by simp [markParcelK]
  | p :: r, k, 0 => by simp only [List.take_zero]; exact le_markParcelK (p :: r) k
  | p :: r, k, i + 1 => by simp only [List.take_succ_cons, markParcelK]; exact markParcelK_le_all r _ i

def headMkParcel (ws done : List Parcel) (k : Int) (i : Nat) : St := hd [(0, .ref 0), (1, .int .i64 k), (5, .int .i64 i)] [.arr 7 (done.map (Parcel.c .own) ++ (ws.drop i).map (Parcel.c .own))] 1

def headHlParcel (xs : List Parcel) (k : Int) (i : Nat) : St := hd [(0, .sl .bor 7 (xs.map (Parcel.c .own))), (1, .int .i64 k), (5, .int .i64 i)] [] 0

def headEqParcel (m m' : Md) (ws : List Parcel) (i : Nat) : St := hd [(0, .sl .bor 7 (ws.map (Parcel.c m))), (1, .sl .bor 7 (ws.map (Parcel.c m'))), (5, .int .i64 i)] [] 0

end Go.Proofs.Ytgdjnflnfeakjaa

namespace Go.Proofs.Ytgdjnflnfeakjaa
open Go
set_option linter.unusedSimpArgs false
set_option maxRecDepth 100000

def seenAt (b : T) (ps : List Place) : Int := match ps[ltCount (·.berth) b ps]? with
  | some p => if sEq p.berth b then IntKind.i64.wrap (p.seen + 1) else 1
  | none => 1
def putPlace (b : T) (ws : List Want) (ps : List Place) : List Place := putBy (·.berth) ⟨b, seenAt b ps, ws⟩ ps
def landPut (l : Land) (b : T) (ws : List Want) : Land := { l with places := putPlace b ws l.places }
def matePut (l : Land) (b : T) (ws : List Want) : Land × Int :=
  if landOk l then (if isName b && wantsOk ws then (if landOk (landPut l b ws) then (landPut l b ws, 0) else (l, 3)) else (l, 2)) else (.zero, 1)

theorem placesGo_asc : ∀ (r pre : List Place), Asc (·.berth) pre → placesGo pre r = true → Asc (·.berth) (pre ++ r)
  | [], pre, h, _ => by simpa using h
  | p :: r, pre, h, k => by
    simp only [placesGo, Bool.and_eq_true] at k
    have e : ascP pre p = ascL (fun x : Place => x.berth) pre p := by unfold ascP ascL; cases pre.getLast? <;> rfl
    have h2 := (asc_snoc (fun x : Place => x.berth) pre p h).1 (by rw [← e]; exact k.2.1)
    have := placesGo_asc r (pre ++ [p]) h2 k.2.2.2
    simpa using this

theorem landOk_asc {l : Land} (h : landOk l = true) : Asc (·.berth) l.places ∧ l.places.length ≤ 4 ∧ l.grants.length ≤ 40 := by
  simp only [landOk, Bool.and_eq_true, decide_eq_true_eq] at h
  have := placesGo_asc l.places [] (Asc.nil _) h.2.2.2.2.2
  exact ⟨by simpa using this, h.2.2.2.1, h.2.2.1⟩

def head72 (l : Land) (m : Md) (b : T) (ws : List Want) (k : Nat) : St :=
  hd [(1, .str b), (2, .sl .bor 7 (ws.map Want.c)), (3, .ptr 0 0 0), (6, .ptr 1 0 0), (8, .ptr 2 0 0), (9, .int .i64 k)]
    [.box (l.c .bor m), .box zeroL, .box [.int .i64 l.time, .ref 3, .ref 4], .arr 5 (l.grants.map Grant.c), .arr 3 (l.places.map (Place.c .own))] 0

theorem law72 (l : Land) (m : Md) (b : T) (ws : List Want) (hl : l.small) (hw : ws.length ≤ 1048576) : F 72 [.agg (l.c .bor m), .str b, .sl .bor 7 (ws.map Want.c)] [] = some (.tup [.agg ((matePut l b ws).1.c .own .own), .int .i64 (matePut l b ws).2], []) := by
  refine F_run fn72 rfl ?_
  have w1 := law24 l m hl
  have w2 := law7 ws (by unfold big; omega)
  have w3 := law121 l m hl
  simp only [Land.c] at w1 w3
  unfold matePut
  cases q1 : landOk l
  · simp [c72, w1, q1, Land.zero]
  cases q2 : isName b
  · simp [c72, w1, w3, q1, q2]
  cases q3 : wantsOk ws
  · simp [c72, w1, w2, w3, q1, q2, q3]
  obtain ⟨hasc, hp4, hg40⟩ := landOk_asc q1
  have hb : ws.length * 72 ≤ 140737488355328 := by omega
  have hb2 : ws.length ≤ 140737488355328 := by omega
  simp [c72, w1, w2, w3, q1, q2, q3]
  have hK := ltCount_le (fun p : Place => p.berth) b l.places
  have hat := fun i y => ltCount_at (fun p : Place => p.berth) (b := b) (l := l.places) (i := i) (y := y)
  have hst := fun y => ltCount_stop (fun p : Place => p.berth) (b := b) (l := l.places) (y := y)
  have hpt := putBy_take (fun p : Place => p.berth) ⟨b, seenAt b l.places, ws⟩ l.places
  have hse : seenAt b l.places = match l.places[ltCount (fun p : Place => p.berth) b l.places]? with
    | some p => if sEq p.berth b then IntKind.i64.wrap (p.seen + 1) else 1
    | none => 1 := rfl
  have hhit : hitAt (fun p : Place => p.berth) b l.places = match l.places[ltCount (fun p : Place => p.berth) b l.places]? with
    | some y => sEq y.berth b
    | none => false := by unfold hitAt; cases l.places[ltCount (fun p : Place => p.berth) b l.places]? <;> rfl
  generalize ltCount (fun p : Place => p.berth) b l.places = K at *
  refine (loop_by (σ := Nat) (fun k => head72 l m b ws k) (fun k => k ≤ K) (fun k => K - k) (fun _ => _) (fun k Y hk hY => ?_) 0 ?_ (Nat.zero_le _) ?_).trans rfl
  · have hw1 : IntKind.i64.wrap ((k : Int) + 1) = (k : Int) + 1 := i64w (by omega) (by omega)
    rcases Nat.lt_or_ge k K with h | h
    · have hkl : k < l.places.length := by omega
      have hklI : (k : Int) < l.places.length := by omega
      have hx : l.places[k]? = some l.places[k] := List.getElem?_eq_getElem hkl
      have hlt := hat k _ h hx
      simp [head72, c72b0, zeroL, hklI, hkl, hlt]
      refine hY (k + 1) _ (by omega) (by omega) ?_
      simp [head72, zeroL, hw1]
    · obtain rfl : k = K := by omega
      have f1 : k * 48 ≤ 140737488355328 := by omega
      have f2 : k ≤ 140737488355328 := by omega
      have f3 : (k + 1) * 48 ≤ 140737488355328 := by omega
      have f4 : k + 1 ≤ 140737488355328 := by omega
      have hklI : (k : Int) ≤ l.places.length := by omega
      have hfin : ∀ (x : Land), landPut l b ws = x → F 24 [.agg (x.c .bor .own)] [] = some (.bool (landOk x), []) := fun x hx => law24 x .own ⟨by rw [← hx]; exact hl.grants, by rw [← hx]; have := putBy_len (fun p : Place => p.berth) ⟨b, seenAt b l.places, ws⟩ l.places; simp only [landPut, putPlace]; omega, fun p hp => by
        rw [← hx] at hp
        rcases mem_putBy (fun p : Place => p.berth) hp with rfl | hp
        · exact ⟨hw⟩
        · exact hl.each p hp⟩
      cases hx : l.places[k]? with
      | none =>
        have hlen : l.places.length = k := by have := List.getElem?_eq_none_iff.1 hx; omega
        have t1 : (l.places.map (Place.c .own)).take l.places.length = l.places.map (Place.c .own) := List.take_of_length_le (by simp)
        have t2 : (l.places.map (Place.c .own)).drop l.places.length = [] := List.drop_of_length_le (by simp)
        rw [hx] at hse hhit
        simp only at hse hhit
        rw [hhit, hse] at hpt
        have hpl : landPut l b ws = ⟨l.time, l.grants, l.places ++ [⟨b, 1, ws⟩]⟩ := by
          simp only [landPut, putPlace, hse, hpt]
          simp [← hlen]
        have w24 := hfin _ hpl
        rw [hpl]
        generalize hq : landOk ⟨l.time, l.grants, l.places ++ [⟨b, 1, ws⟩]⟩ = q at w24
        simp only [Land.c, List.map_append, List.map_cons, List.map_nil, Place.c] at w24
        subst hlen
        simp [head72, c72b0, zeroL, takeRows, hb, hb2, slBounds, f1, f2, f3, f4, t1, t2, w24]
        cases q <;> simp [w3]
      | some y =>
        have hkl : k < l.places.length := (List.getElem?_eq_some_iff.1 hx).1
        have hy := (List.getElem?_eq_some_iff.1 hx).2
        have hns := hst y hx
        have hpos : 0 < l.places.length - k := by omega
        have hposI : (0 : Int) < ((l.places.length - k : Nat) : Int) := by omega
        have g1 : (k + 1 + (l.places.length - k)) * 48 ≤ 140737488355328 := by omega
        have g2 : k + 1 + (l.places.length - k) ≤ 140737488355328 := by omega
        have g3 : (k + 1 + (l.places.length - k - 1)) * 48 ≤ 140737488355328 := by omega
        have g4 : k + 1 + (l.places.length - k - 1) ≤ 140737488355328 := by omega
        have hkle : k ≤ l.places.length := by omega
        have hmin : min k l.places.length = k := Nat.min_eq_left hkle
        have hsum : k + (l.places.length - k) = l.places.length := by omega
        have t3 : ((l.places.map (Place.c .own)).drop k).take (l.places.length - k) = (l.places.map (Place.c .own)).drop k := List.take_of_length_le (by simp)
        have t4 : ∀ (r : List AV) (Y : List (List AV)), (List.replicate k r ++ Y).drop k = Y := fun r Y => List.drop_left' (by simp)
        rw [hx] at hse hhit
        simp only at hse hhit
        rw [hhit] at hpt
        cases hc : sEq y.berth b
        · rw [hc] at hse hpt
          simp only [Bool.false_eq_true, if_false] at hse hpt
          rw [hse] at hpt
          have hpl : landPut l b ws = ⟨l.time, l.grants, l.places.take k ++ ⟨b, 1, ws⟩ :: l.places.drop k⟩ := by
            simp only [landPut, putPlace, hse, hpt]
          have w24 := hfin _ hpl
          rw [hpl]
          generalize hq : landOk ⟨l.time, l.grants, l.places.take k ++ ⟨b, 1, ws⟩ :: l.places.drop k⟩ = q at w24
          simp only [Land.c, List.map_append, List.map_cons, List.map_take, List.map_drop, Place.c] at w24
          simp [head72, c72b0, zeroL, takeRows, hb, hb2, slBounds, f1, f2, f3, f4, hklI, hkl, hy, hns, hc, hpos, hposI, g1, g2, hsum, t3, t4, hkle, hmin, w24]
          cases q <;> simp [w3]
        · rw [hc] at hse hpt
          simp only [if_true] at hse hpt
          rw [hse] at hpt
          have hpl : landPut l b ws = ⟨l.time, l.grants, l.places.take k ++ ⟨b, IntKind.i64.wrap (y.seen + 1), ws⟩ :: l.places.drop (k + 1)⟩ := by
            simp only [landPut, putPlace, hse, hpt]
          have w24 := hfin _ hpl
          rw [hpl]
          generalize hq : landOk ⟨l.time, l.grants, l.places.take k ++ ⟨b, IntKind.i64.wrap (y.seen + 1), ws⟩ :: l.places.drop (k + 1)⟩ = q at w24
          simp only [Land.c, List.map_append, List.map_cons, List.map_take, List.map_drop, Place.c] at w24
          have g5 : (k + 1 + (l.places.length - (k + 1))) * 48 ≤ 140737488355328 := by omega
          have g6 : k + 1 + (l.places.length - (k + 1)) ≤ 140737488355328 := by omega
          have h1I : (1 : Int) ≤ ((l.places.length - k : Nat) : Int) := by omega
          have hsum2 : k + 1 + (l.places.length - k - 1) = l.places.length := by omega
          have t5 : ((l.places.map (Place.c .own)).drop (k + 1)).take (l.places.length - k - 1) = (l.places.map (Place.c .own)).drop (k + 1) := List.take_of_length_le (by simp; omega)
          have t6 : ∀ (r : List AV), (List.replicate k r ++ (l.places.map (Place.c .own)).drop k).drop (k + 1) = (l.places.map (Place.c .own)).drop (k + 1) := fun r => by
            rw [List.drop_append]
            simp
          simp [head72, c72b0, zeroL, takeRows, hb, hb2, slBounds, f1, f2, f3, f4, hklI, hkl, hy, hns, hc, hpos, hposI, g1, g2, g3, g4, g5, g6, hsum, hsum2, t3, t4, t5, t6, h1I, hkle, hmin, w24]
          cases q <;> simp [w3]
  · simp [head72, zeroL]
  · unfold big; omega

/-- The last one of this name. -/
def lastAt (b : T) : List Place → Nat → Int → Int
  | [], _, a => a
  | p :: r, i, a => lastAt b r (i + 1) (if sEq p.berth b then i else a)

theorem lastAt_cases (b : T) : ∀ (ps : List Place) (i : Nat) (a : Int), (lastAt b ps i a = a ∧ ∀ p ∈ ps, p.berth ≠ b) ∨ ∃ j p, ps[j]? = some p ∧ p.berth = b ∧ lastAt b ps i a = ((i + j : Nat) : Int)
  | [], i, a => .inl ⟨rfl, fun p hp => by simp at hp⟩
  | p :: r, i, a => by
    unfold lastAt
    rcases lastAt_cases b r (i + 1) (if sEq p.berth b then i else a) with ⟨h1, h2⟩ | ⟨j, q, h1, h2, h3⟩
    · by_cases hp : p.berth = b
      · exact .inr ⟨0, p, rfl, hp, by rw [h1, hp, sEq_self]; simp⟩
      · refine .inl ⟨by rw [h1, sEq_ne hp]; simp, fun x hx => ?_⟩
        rcases List.mem_cons.1 hx with rfl | hx
        · exact hp
        · exact h2 x hx
    · exact .inr ⟨j + 1, q, by simpa using h1, h2, by rw [h3]; congr 1; omega⟩

def head70 (l : Land) (m : Md) (b : T) (ws : List Want) (i : Nat) (at_ : Int) : St :=
  hd [(1, .str b), (3, .ptr 0 0 0), (6, .ptr 1 0 0), (8, .ptr 2 0 0), (9, .ptr 3 0 0), (10, .int .i64 at_), (34, .int .i64 l.places.length), (35, .int .i64 i)]
    [.box (l.c .bor m), .box zeroL, .box [.int .i64 l.time, .ref 4, .ref 5], .box [.str b, .int .i64 1, .ref 6], .arr 5 (l.grants.map Grant.c), .arr 3 (l.places.map (Place.c .own)), .arr 7 (ws.map Want.c)] 0

theorem seenAt_hit {b : T} {ps : List Place} {j : Nat} {p : Place} (ha : Asc (·.berth) ps) (hj : ps[j]? = some p) (hp : p.berth = b) : seenAt b ps = IntKind.i64.wrap (p.seen + 1) := by
  have hlt : j ≤ ltCount (fun p : Place => p.berth) b ps ∧ ps[ltCount (fun p : Place => p.berth) b ps]? = some p := by
    induction ps generalizing j with
    | nil => simp at hj
    | cons q r ih =>
      have h1 := List.pairwise_cons.1 ha
      cases j with
      | zero =>
        simp at hj
        subst hj
        simp [ltCount, hp, sLt_irrefl]
      | succ j =>
        have hj' : r[j]? = some p := by simpa using hj
        have h2 := h1.1 p (List.mem_of_getElem? hj')
        simp only at h2
        rw [hp] at h2
        obtain ⟨h3, h4⟩ := ih h1.2 hj'
        simp [ltCount, h2, h3, h4]
  unfold seenAt
  rw [hlt.2]
  simp [hp]

theorem seenAt_miss {b : T} {ps : List Place} (h : ∀ p ∈ ps, p.berth ≠ b) : seenAt b ps = 1 := by
  unfold seenAt
  split
  · rename_i p hp
    rw [sEq_ne (h p (List.mem_of_getElem? hp))]
    rfl
  · rfl

theorem law70 (l : Land) (m : Md) (b : T) (ws : List Want) (hl : l.small) (hw : ws.length ≤ 1048576) : F 70 [.agg (l.c .bor m), .str b, .sl .bor 7 (ws.map Want.c)] [] = some (.tup [.agg ((matePut l b ws).1.c .own .own), .int .i64 (matePut l b ws).2], []) := by
  refine F_run fn70 rfl ?_
  have w1 := law23 l m hl
  have w2 := law6 ws (by unfold big; omega)
  have w3 := law122 l m hl
  simp only [Land.c] at w1 w3
  unfold matePut
  cases q1 : landOk l
  · simp [c70, w1, q1, Land.zero]
  cases q2 : isName b
  · simp [c70, w1, w3, q1, q2]
  cases q3 : wantsOk ws
  · simp [c70, w1, w2, w3, q1, q2, q3]
  obtain ⟨hasc, hp4, hg40⟩ := landOk_asc q1
  have hb : ws.length * 72 ≤ 140737488355328 := by omega
  have hb2 : ws.length ≤ 140737488355328 := by omega
  have hfin : ∀ (x : Land), landPut l b ws = x → F 23 [.agg (x.c .bor .own)] [] = some (.bool (landOk x), []) := fun x hx => law23 x .own ⟨by rw [← hx]; exact hl.grants, by rw [← hx]; have := putBy_len (fun p : Place => p.berth) ⟨b, seenAt b l.places, ws⟩ l.places; simp only [landPut, putPlace]; omega, fun p hp => by
    rw [← hx] at hp
    rcases mem_putBy (fun p : Place => p.berth) hp with rfl | hp
    · exact ⟨hw⟩
    · exact hl.each p hp⟩
  simp [c70, w1, w2, w3, q1, q2, q3, takeRows, hb, hb2]
  refine (loop_list l.places (fun i (a : Int) => head70 l m b ws i a) (fun i a => lastAt b (l.places.drop i) i a = lastAt b l.places 0 (-1)) (fun _ _ _ => _) (fun a Y hinv => ?_) (fun i p r a Y hp hi hr hinv hY => ?_) (-1) ?_ rfl ?_).trans rfl
  · rw [List.drop_length] at hinv
    simp only [lastAt] at hinv
    rcases lastAt_cases b l.places 0 (-1) with ⟨h1, h2⟩ | ⟨j, p, h1, h2, h3⟩
    · rw [h1] at hinv
      subst hinv
      have hse := seenAt_miss h2
      have hpl : landPut l b ws = ⟨l.time, l.grants, putBy (fun p : Place => p.berth) ⟨b, 1, ws⟩ l.places⟩ := by
        simp only [landPut, putPlace, hse]
      have w23 := hfin _ hpl
      rw [hpl]
      have hsort := sort_typed (Place.c .own) (fun p : Place => p.berth) 0 (fun _ => rfl) (putBy_perm (fun p : Place => p.berth) (x := ⟨b, 1, ws⟩) (l := l.places) h2) (putBy_asc (fun p : Place => p.berth) hasc)
      simp only [List.map_append, List.map_cons, List.map_nil, Place.c] at hsort
      obtain ⟨s1, s2⟩ := hsort
      generalize hpp : putBy (fun p : Place => p.berth) ⟨b, 1, ws⟩ l.places = pp at *
      generalize hq : landOk ⟨l.time, l.grants, pp⟩ = q at w23
      simp only [Land.c] at w23
      have e1 : (l.places.length + 1) * 48 ≤ 140737488355328 := by omega
      have e2 : l.places.length + 1 ≤ 140737488355328 := by omega
      have e3 : l.places.length + 1 ≤ 1000000000 := by omega
      simp [head70, c70b0, zeroL, takeRows, e1, e2, e3, isRef, sortTab, s1, s2, w23]
      cases q <;> simp [w3]
    · rw [h3] at hinv
      simp only [Nat.zero_add] at hinv
      subst hinv
      obtain ⟨hj, hg⟩ := List.getElem?_eq_some_iff.1 h1
      have hse := seenAt_hit hasc h1 h2
      have hpl : landPut l b ws = ⟨l.time, l.grants, l.places.set j ⟨b, IntKind.i64.wrap (p.seen + 1), ws⟩⟩ := by
        simp only [landPut, putPlace, hse]
        rw [putBy_set (fun p : Place => p.berth) hasc h1 h2]
      have w23 := hfin _ hpl
      rw [hpl]
      generalize hq : landOk ⟨l.time, l.grants, l.places.set j ⟨b, IntKind.i64.wrap (p.seen + 1), ws⟩⟩ = q at w23
      simp only [Land.c, List.map_set, Place.c] at w23
      have hj0 : (0 : Int) ≤ (j : Int) := by omega
      simp [head70, c70b0, zeroL, hj, hg, hj0, w23]
      cases q <;> simp [w3, List.map_set]
  · have hw1 : IntKind.i64.wrap ((i : Int) + 1) = (i : Int) + 1 := i64w (by omega) (by omega)
    obtain ⟨_, hg⟩ := List.getElem?_eq_some_iff.1 hp
    have hiI : (i : Int) < l.places.length := by omega
    have hd : l.places.drop i = p :: l.places.drop (i + 1) := by rw [List.drop_eq_getElem_cons hi, hg]
    rw [hd] at hinv
    simp only [lastAt] at hinv
    cases hc : sEq p.berth b
    · rw [hc] at hinv
      simp [head70, c70b0, zeroL, hiI, hi, hg, hc]
      refine hY a _ (by simpa using hinv) ?_
      simp [head70, zeroL, hw1]
    · rw [hc] at hinv
      simp [head70, c70b0, zeroL, hiI, hi, hg, hc]
      refine hY i _ (by simpa using hinv) ?_
      simp [head70, zeroL, hw1]
  · simp [head70, zeroL]
  · unfold big; omega
end Go.Proofs.Ytgdjnflnfeakjaa

namespace Go.Proofs.Ytgdjnflnfeakjaa
open Go
set_option linter.unusedSimpArgs false
set_option maxRecDepth 100000

def head182 (ws : List Want) (n : T) (i : Nat) : St := hd [(1, .str n), (4, .ptr 0 0 0), (8, .sl .bor 7 (ws.map Want.c)), (9, .int .i64 ws.length), (10, .int .i64 i)] [.box Want.zero.c] 0

theorem law182 (ws : List Want) (n : T) (hl : ws.length < big) : F 182 [.sl .bor 7 (ws.map Want.c), .str n] [] = some (.tup [.agg ((findW ws n).getD .zero).c, .bool (findW ws n).isSome], []) := by
  refine F_run fn182 rfl ?_
  have hm : ws.length ≤ 9223372036854775807 := by unfold big at hl; omega
  simp [c182]
  refine (loop_list ws (fun i (_ : Unit) => head182 ws n i) (fun _ _ => True) (fun _ r l => (AV.tup [.agg ((findW r n).getD .zero).c, .bool (findW r n).isSome], ([] : List (Option AO)))) (fun acc Y _ => ?_) (fun i a r acc Y ha hi hr _ hY => ?_) () ?_ trivial ?_).trans rfl
  · simp [head182, c182b0, findW, Want.zero]
  · have hw : IntKind.i64.wrap ((i : Int) + 1) = (i : Int) + 1 := i64w (by omega) (by omega)
    obtain ⟨_, hg⟩ := List.getElem?_eq_some_iff.1 ha
    have hiI : (i : Int) < ws.length := by omega
    cases q : sEq a.copy n
    · simp [head182, c182b0, hi, hiI, hg, findW, Want.zero, q]
      refine hY () _ trivial ?_
      simp [head182, hw, Want.zero]
    · simp [head182, c182b0, hi, hiI, hg, findW, Want.zero, q]
  · simp [head182, Want.zero]
  · exact hl

/-- Where a hold is given; -1 if nowhere. -/
def findG (h : T) : Nat → List Grant → Int
  | _, [] => -1
  | i, g :: r => if sEq g.hold h then i else findG h (i + 1) r

def head139 (l : Land) (m : Md) (h : T) (i : Nat) : St := hd [(1, .str h), (2, .ptr 0 0 0), (5, .int .i64 i)] [.box (l.c .bor m)] 0

theorem law139 (l : Land) (m : Md) (h : T) (hl : l.small) : F 139 [.agg (l.c .bor m), .str h] [] = some (.int .i64 (findG h 0 l.grants), []) := by
  refine F_run fn139 rfl ?_
  have hm := hl.grants
  simp [c139]
  refine (loop_list l.grants (fun i (_ : Unit) => head139 l m h i) (fun _ _ => True) (fun i r _ => (AV.int .i64 (findG h i r), ([] : List (Option AO)))) (fun acc Y _ => ?_) (fun i a r acc Y ha hi hr _ hY => ?_) () ?_ trivial ?_).trans rfl
  · simp [head139, c139b0, findG]
  · have hw : IntKind.i64.wrap ((i : Int) + 1) = (i : Int) + 1 := i64w (by omega) (by omega)
    obtain ⟨_, hg⟩ := List.getElem?_eq_some_iff.1 ha
    have hiI : (i : Int) < l.grants.length := by omega
    cases q : sEq a.hold h
    · simp [head139, c139b0, hi, hiI, hg, findG, q]
      refine hY () _ trivial ?_
      simp [head139, hw]
    · simp [head139, c139b0, hi, hiI, hg, findG, q]
  · simp [head139]
  · unfold big; omega

/-- Whether a berth is to run a copy with a hold. -/
def wantsHold (b c h : T) (p : Place) : Bool := p.wants.any fun w => sEq p.berth b && (sEq w.copy c && sEq w.hold h)
def head159 (l : Land) (m : Md) (b c h : T) (i : Nat) : St := hd [(1, .str b), (2, .str c), (3, .str h), (4, .ptr 0 0 0), (9, .int .i64 i)] [.box (l.c .bor m)] 0
def head159b (l : Land) (m : Md) (b c h : T) (i j : Nat) : St := hd [(1, .str b), (2, .str c), (3, .str h), (4, .ptr 0 0 0), (9, .int .i64 i), (10, .int .i64 j)] [.box (l.c .bor m)] 0

theorem law159 (l : Land) (m : Md) (b c h : T) (hl : l.small) : F 159 [.agg (l.c .bor m), .str b, .str c, .str h] [] = some (.bool (l.places.any (wantsHold b c h)), []) := by
  refine F_run fn159 rfl ?_
  have hm := hl.places
  simp [c159]
  refine (loop_list l.places (fun i (_ : Unit) => head159 l m b c h i) (fun _ _ => True) (fun i r _ => (AV.bool (r.any (wantsHold b c h)), ([] : List (Option AO)))) (fun acc Y _ => ?_) (fun i p r acc Y ha hi hr _ hY => ?_) () ?_ trivial ?_).trans rfl
  · simp [head159, c159b1]
  · have hw : IntKind.i64.wrap ((i : Int) + 1) = (i : Int) + 1 := i64w (by omega) (by omega)
    obtain ⟨_, hg⟩ := List.getElem?_eq_some_iff.1 ha
    have hiI : (i : Int) < l.places.length := by omega
    have hps := hl.each p (List.mem_of_getElem? ha)
    have hpl := hps.wants
    simp [head159, c159b1, hi, hiI, hg]
    refine (loop_list p.wants (fun j (_ : Unit) => head159b l m b c h i j) (fun _ _ => True) (fun j r2 _ => (AV.bool ((r2.any fun w => sEq p.berth b && (sEq w.copy c && sEq w.hold h)) || r.any (wantsHold b c h)), ([] : List (Option AO)))) (fun acc Y2 _ => ?_) (fun j x r2 acc Y2 hx hj hr2 _ hY2 => ?_) () ?_ trivial ?_).trans ?_
    · simp [head159b, c159b0, hi, hiI, hg]
      refine hY () _ trivial ?_
      simp [head159, hw]
    · have hw2 : IntKind.i64.wrap ((j : Int) + 1) = (j : Int) + 1 := i64w (by omega) (by omega)
      obtain ⟨_, hg2⟩ := List.getElem?_eq_some_iff.1 hx
      have hjI : (j : Int) < p.wants.length := by omega
      cases q1 : sEq p.berth b
      · simp [head159b, c159b0, hi, hiI, hg, hj, hjI, hg2, q1]
        rw [hY2 () _ trivial (by simp [head159b, hw2])]
        simp [q1]
      · cases q2 : sEq x.copy c
        · simp [head159b, c159b0, hi, hiI, hg, hj, hjI, hg2, q1, q2]
          rw [hY2 () _ trivial (by simp [head159b, hw2])]
          simp [q1]
        · cases q3 : sEq x.hold h
          · simp [head159b, c159b0, hi, hiI, hg, hj, hjI, hg2, q1, q2, q3]
            rw [hY2 () _ trivial (by simp [head159b, hw2])]
            simp [q1]
          · simp [head159b, c159b0, hi, hiI, hg, hj, hjI, hg2, q1, q2, q3]
    · simp [head159b, hg]
    · unfold big; omega
    · simp [wantsHold]
  · simp [head159]
  · unfold big; omega
end Go.Proofs.Ytgdjnflnfeakjaa

namespace Go.Proofs.Ytgdjnflnfeakjaa
open Go
set_option linter.unusedSimpArgs false
set_option maxRecDepth 100000

def Grant.k (g : Grant) : T := g.hold
def newGrant (t : Int) (p : Parcel) : Grant := ⟨p.hold, p.berth, p.copy, p.at_, t + 32⟩
def insG (x : Grant) (gs : List Grant) : List Grant := gs.take (ltCount Grant.k x.hold gs) ++ x :: gs.drop (ltCount Grant.k x.hold gs)
def grantOf (h : T) (gs : List Grant) : Option Grant := gs.find? fun g => sEq g.hold h
/-- Whether who asks may have what another one has. -/
def blocks (t : Int) (p : Parcel) (g : Grant) : Bool := decide (t < g.til) && !(sEq g.berth p.berth && (sEq g.copy p.copy && decide (g.at_ ≤ p.at_)))
def lives40 (t : Int) (gs : List Grant) : List Grant := if 40 ≤ gs.length then gs.filter fun g => decide (t < g.til) else gs
def landGive (l : Land) (p : Parcel) : Option Land :=
  if l.places.any (wantsHold p.berth p.copy p.hold) then
    match grantOf p.hold l.grants with
    | some g => if blocks l.time p g then none else some { l with grants := putBy Grant.k (newGrant l.time p) l.grants }
    | none => if 40 ≤ (lives40 l.time l.grants).length then none else some { l with grants := putBy Grant.k (newGrant l.time p) (lives40 l.time l.grants) }
  else none

theorem findG_cases (h : T) : ∀ (gs : List Grant) (i : Nat), (findG h i gs = -1 ∧ grantOf h gs = none ∧ Lacks Grant.k h gs) ∨ ∃ j g, gs[j]? = some g ∧ g.hold = h ∧ findG h i gs = ((i + j : Nat) : Int) ∧ grantOf h gs = some g
  | [], i => .inl ⟨rfl, rfl, fun y hy => by simp at hy⟩
  | g :: r, i => by
    unfold findG grantOf
    rw [List.find?_cons]
    by_cases q : sEq g.hold h = true
    · rw [if_pos q, q]
      exact .inr ⟨0, g, rfl, (sEq_iff _ _).1 q, by simp, rfl⟩
    · rw [if_neg q]
      simp only [q]
      rcases findG_cases h r (i + 1) with ⟨h1, h2, h3⟩ | ⟨j, g', h1, h2, h3, h4⟩
      · refine .inl ⟨h1, h2, fun y hy => ?_⟩
        rcases List.mem_cons.1 hy with rfl | hy
        · exact fun e => q ((sEq_iff _ _).2 e)
        · exact h3 y hy
      · exact .inr ⟨j + 1, g', by simpa using h1, h2, by rw [h3]; congr 1; omega, h4⟩

theorem insG_lacks {x : Grant} {gs : List Grant} (h : Lacks Grant.k x.hold gs) : insG x gs = putBy Grant.k x gs := by
  rw [putBy_take]
  have : hitAt Grant.k (Grant.k x) gs = false := by
    unfold hitAt
    split
    · rename_i y hy
      exact sEq_ne (h y (List.mem_of_getElem? hy))
    · rfl
  rw [this]
  rfl

theorem insG_erase {x g : Grant} : ∀ {gs : List Grant} {j : Nat}, Asc Grant.k gs → gs[j]? = some g → g.hold = x.hold → insG x (gs.take j ++ gs.drop (j + 1)) = putBy Grant.k x gs
  | [], j, _, h, _ => by simp at h
  | z :: gs, j, ha, h, he => by
    have h1 := List.pairwise_cons.1 ha
    cases j with
    | zero =>
      simp at h
      subst h
      have hl : Lacks Grant.k x.hold gs := fun y hy e => by
        have := h1.1 y hy
        unfold Grant.k at this e
        rw [e, he, sLt_irrefl] at this
        cases this
      simp only [List.take_zero, List.nil_append, Nat.zero_add, List.drop_one, List.tail_cons]
      rw [insG_lacks hl, putBy, if_neg (by unfold Grant.k; rw [he, sLt_irrefl]; simp), if_pos (by unfold Grant.k; rw [he]; exact sEq_self _)]
      cases gs with
      | nil => rfl
      | cons y ys =>
        have := h1.1 y List.mem_cons_self
        unfold Grant.k at this
        rw [he] at this
        have q1 : ¬ sLt (Grant.k y) (Grant.k x) = true := fun q => by
          have := sLt_trans this q
          unfold Grant.k at this
          rw [sLt_irrefl] at this
          cases this
        have q2 : ¬ sEq (Grant.k y) (Grant.k x) = true := fun q => hl y List.mem_cons_self ((sEq_iff _ _).1 q)
        rw [putBy, if_neg q1, if_neg q2]
    | succ j =>
      have hg : gs[j]? = some g := by simpa using h
      have hlt := h1.1 g (List.mem_of_getElem? hg)
      unfold Grant.k at hlt
      rw [he] at hlt
      have ih := insG_erase h1.2 hg he
      simp only [List.take_succ_cons, List.drop_succ_cons, List.cons_append]
      rw [putBy, if_pos (by unfold Grant.k; exact hlt), ← ih]
      have e1 : ∀ r, ltCount Grant.k x.hold (z :: r) = ltCount Grant.k x.hold r + 1 := fun r => by simp [ltCount, Grant.k, hlt]
      unfold insG
      rw [e1]
      simp

def tl142 : CCode := (.seq (.block 2
    (.loop [2, 3, 4, 10] c142b1))
  (.seq (.region [
    ⟨some 128, .faddr (.tmp 3) 4, none⟩,
    ⟨some 129, .load (.tmp 128) 1 false .plain, none⟩,
    ⟨some 130, .faddr (.tmp 3) 1, none⟩,
    ⟨some 131, .load (.tmp 130) 1 false .plain, none⟩,
    ⟨some 132, .faddr (.tmp 3) 5, none⟩,
    ⟨some 133, .load (.tmp 132) 1 false .plain, none⟩,
    ⟨some 134, .faddr (.tmp 3) 6, none⟩,
    ⟨some 135, .load (.tmp 134) 1 false .plain, none⟩,
    ⟨some 136, .faddr (.tmp 2) 0, none⟩,
    ⟨some 137, .load (.tmp 136) 1 false .plain, none⟩,
    ⟨some 138, .bin .add (.tmp 137) (.const (.int .i64 32)), none⟩,
    ⟨some 139, .build [.str ⟨#[]⟩, .str ⟨#[]⟩, .str ⟨#[]⟩, .int .i64 0, .int .i64 0] [(0, 1, .tmp 129), (1, 1, .tmp 131), (2, 1, .tmp 133), (3, 1, .tmp 135), (4, 1, .tmp 138)], none⟩,
    ⟨some 11, .alloc [.str ⟨#[]⟩, .str ⟨#[]⟩, .str ⟨#[]⟩, .int .i64 0, .int .i64 0], none⟩,
    ⟨none, .store (.tmp 11) (.tmp 139) 5, none⟩] [2, 4, 10, 11])
  (.seq (.loud [
    ⟨some 140, .bslice 5 [.str ⟨#[]⟩, .str ⟨#[]⟩, .str ⟨#[]⟩, .int .i64 0, .int .i64 0] 0 [], none⟩,
    ⟨some 141, .faddr (.tmp 2) 1, none⟩,
    ⟨some 142, .load (.tmp 141) 1 false .plain, none⟩,
    ⟨some 143, .mov (.tmp 10), none⟩,
    ⟨some 144, .slice 5 (.tmp 142) none (some (.tmp 143)), none⟩,
    ⟨some 145, .append 5 64 true (.tmp 140) (.tmp 144), none⟩,
    ⟨some 146, .load (.tmp 11) 5 true .plain, none⟩,
    ⟨some 147, .bslice 5 [.str ⟨#[]⟩, .str ⟨#[]⟩, .str ⟨#[]⟩, .int .i64 0, .int .i64 0] 1 [(0, .tmp 146)], none⟩,
    ⟨some 148, .append 5 64 true (.tmp 145) (.tmp 147), none⟩,
    ⟨some 149, .faddr (.tmp 2) 1, none⟩,
    ⟨some 150, .load (.tmp 149) 1 false .plain, none⟩,
    ⟨some 151, .mov (.tmp 10), none⟩,
    ⟨some 152, .slice 5 (.tmp 150) (some (.tmp 151)) none, none⟩,
    ⟨some 153, .append 5 64 true (.tmp 148) (.tmp 152), none⟩,
    ⟨some 154, .faddr (.tmp 2) 1, none⟩,
    ⟨none, .store (.tmp 154) (.tmp 153) 1, none⟩] [0, 0, 2, 0, 14, 31, 0, 64, 255, 0, 512, 0, 3584, 8191, 16383, 32767] [2, 4])
  (.seq (.region [
    ⟨some 155, .load (.tmp 2) 3 true .plain, none⟩,
    ⟨none, .store (.tmp 4) (.tmp 155) 3, none⟩,
    ⟨some 5, .mov (.const (.bool true)), none⟩] [4, 5])
  .ret))))
theorem c142_cut : c142 = ⟨156, [.cell 4 3 true, .tmp 5],
  (.seq (.region [
    ⟨some 2, .box (.tmp 0), none⟩,
    ⟨some 3, .box (.tmp 1), none⟩,
    ⟨some 4, .alloc [.int .i64 0, .sl .own 5 [], .sl .own 3 []], none⟩,
    ⟨some 5, .mov (.const (.bool false)), none⟩] [2, 3, 4])
  (.seq (.seq (.region [
    ⟨some 12, .load (.tmp 2) 3 true .plain, none⟩,
    ⟨some 13, .faddr (.tmp 3) 1, none⟩,
    ⟨some 14, .load (.tmp 13) 1 false .plain, none⟩,
    ⟨some 15, .faddr (.tmp 3) 5, none⟩,
    ⟨some 16, .load (.tmp 15) 1 false .plain, none⟩,
    ⟨some 17, .faddr (.tmp 3) 4, none⟩,
    ⟨some 18, .load (.tmp 17) 1 false .plain, none⟩,
    ⟨some 19, .call 159 [false, false, false, false] [.tmp 12, .tmp 14, .tmp 16, .tmp 18], none⟩,
    ⟨some 20, .un .not (.tmp 19), none⟩] [2, 3, 4, 20])
  (.cond (.tmp 20)
    (.seq (.region [
      ⟨some 21, .blank 3 (.tmp 2), none⟩,
      ⟨none, .store (.tmp 4) (.tmp 21) 3, none⟩,
      ⟨some 5, .mov (.const (.bool false)), none⟩] [4, 5])
    .ret)
    .skip))
  (.seq (.region [
    ⟨some 22, .load (.tmp 2) 3 true .plain, none⟩,
    ⟨some 23, .faddr (.tmp 3) 4, none⟩,
    ⟨some 24, .load (.tmp 23) 1 false .plain, none⟩,
    ⟨some 25, .call 139 [false, false] [.tmp 22, .tmp 24], none⟩,
    ⟨some 6, .mov (.tmp 25), none⟩] [2, 3, 4, 6])
  (.seq (.seq (.region [
    ⟨some 26, .mov (.tmp 6), none⟩,
    ⟨some 27, .bin .geq (.tmp 26) (.const (.int .i64 0)), none⟩] [2, 3, 4, 6, 27])
  (.cond (.tmp 27)
    (.seq (.region [
      ⟨some 28, .faddr (.tmp 2) 1, none⟩,
      ⟨some 29, .load (.tmp 28) 1 false .plain, none⟩,
      ⟨some 30, .mov (.tmp 6), none⟩,
      ⟨some 31, .iaddr 5 (.tmp 29) (.tmp 30), none⟩,
      ⟨some 32, .load (.tmp 31) 5 true .plain, none⟩,
      ⟨some 7, .alloc [.str ⟨#[]⟩, .str ⟨#[]⟩, .str ⟨#[]⟩, .int .i64 0, .int .i64 0], none⟩,
      ⟨none, .store (.tmp 7) (.tmp 32) 5, none⟩] [2, 3, 4, 6, 7])
    (.seq (.seq (.region [
      ⟨some 33, .faddr (.tmp 7) 4, none⟩,
      ⟨some 34, .load (.tmp 33) 1 false .plain, none⟩,
      ⟨some 35, .faddr (.tmp 2) 0, none⟩,
      ⟨some 36, .load (.tmp 35) 1 false .plain, none⟩,
      ⟨some 37, .bin .gtr (.tmp 34) (.tmp 36), none⟩,
      ⟨some 38, .mov (.tmp 37), none⟩,
      ⟨some 39, .faddr (.tmp 7) 1, some (38, true)⟩,
      ⟨some 40, .load (.tmp 39) 1 false .plain, some (38, true)⟩,
      ⟨some 41, .faddr (.tmp 3) 1, some (38, true)⟩,
      ⟨some 42, .load (.tmp 41) 1 false .plain, some (38, true)⟩,
      ⟨some 43, .bin .eql (.tmp 40) (.tmp 42), some (38, true)⟩,
      ⟨some 44, .mov (.tmp 43), some (38, true)⟩,
      ⟨some 45, .faddr (.tmp 7) 2, some (44, true)⟩,
      ⟨some 46, .load (.tmp 45) 1 false .plain, some (44, true)⟩,
      ⟨some 47, .faddr (.tmp 3) 5, some (44, true)⟩,
      ⟨some 48, .load (.tmp 47) 1 false .plain, some (44, true)⟩,
      ⟨some 49, .bin .eql (.tmp 46) (.tmp 48), some (44, true)⟩,
      ⟨some 50, .pick (.tmp 44) (.tmp 49) (.const (.bool false)), some (38, true)⟩,
      ⟨some 51, .mov (.tmp 50), some (38, true)⟩,
      ⟨some 52, .faddr (.tmp 7) 3, some (51, true)⟩,
      ⟨some 53, .load (.tmp 52) 1 false .plain, some (51, true)⟩,
      ⟨some 54, .faddr (.tmp 3) 6, some (51, true)⟩,
      ⟨some 55, .load (.tmp 54) 1 false .plain, some (51, true)⟩,
      ⟨some 56, .bin .leq (.tmp 53) (.tmp 55), some (51, true)⟩,
      ⟨some 57, .pick (.tmp 51) (.tmp 56) (.const (.bool false)), some (38, true)⟩,
      ⟨some 58, .un .not (.tmp 57), some (38, true)⟩,
      ⟨some 59, .pick (.tmp 38) (.tmp 58) (.const (.bool false)), none⟩] [2, 3, 4, 6, 59])
    (.cond (.tmp 59)
      (.seq (.region [
        ⟨some 60, .blank 3 (.tmp 2), none⟩,
        ⟨none, .store (.tmp 4) (.tmp 60) 3, none⟩,
        ⟨some 5, .mov (.const (.bool false)), none⟩] [4, 5])
      .ret)
      .skip))
    (.loud [
      ⟨some 61, .bslice 5 [.str ⟨#[]⟩, .str ⟨#[]⟩, .str ⟨#[]⟩, .int .i64 0, .int .i64 0] 0 [], none⟩,
      ⟨some 62, .faddr (.tmp 2) 1, none⟩,
      ⟨some 63, .load (.tmp 62) 1 false .plain, none⟩,
      ⟨some 64, .mov (.tmp 6), none⟩,
      ⟨some 65, .slice 5 (.tmp 63) none (some (.tmp 64)), none⟩,
      ⟨some 66, .append 5 64 true (.tmp 61) (.tmp 65), none⟩,
      ⟨some 67, .faddr (.tmp 2) 1, none⟩,
      ⟨some 68, .load (.tmp 67) 1 false .plain, none⟩,
      ⟨some 69, .mov (.tmp 6), none⟩,
      ⟨some 70, .bin .add (.tmp 69) (.const (.int .i64 1)), none⟩,
      ⟨some 71, .slice 5 (.tmp 68) (some (.tmp 70)) none, none⟩,
      ⟨some 72, .append 5 64 true (.tmp 66) (.tmp 71), none⟩,
      ⟨some 73, .faddr (.tmp 2) 1, none⟩,
      ⟨none, .store (.tmp 73) (.tmp 72) 1, none⟩] [0, 0, 2, 0, 14, 31, 0, 64, 0, 256, 960, 2047, 4095, 8191] [2, 3, 4])))
    .skip))
  (.seq (.seq (.region [
    ⟨some 74, .faddr (.tmp 2) 1, none⟩,
    ⟨some 75, .load (.tmp 74) 1 false .plain, none⟩,
    ⟨some 76, .len false (.tmp 75), none⟩,
    ⟨some 77, .bin .geq (.tmp 76) (.const (.int .i64 40)), none⟩] [2, 3, 4, 77])
  (.cond (.tmp 77)
    (.seq (.region [
      ⟨some 78, .bslice 5 [.str ⟨#[]⟩, .str ⟨#[]⟩, .str ⟨#[]⟩, .int .i64 0, .int .i64 0] 0 [], none⟩,
      ⟨some 8, .mov (.tmp 78), none⟩] [2, 3, 4, 8])
    (.seq (.seq (.region [
      ⟨some 9, .mov (.const (.int .i64 0)), none⟩] [2, 3, 4, 8, 9])
    (.block 0
      (.loop [2, 3, 4, 8, 9] c142b0)))
    (.region [
      ⟨some 103, .mov (.tmp 8), none⟩,
      ⟨some 104, .faddr (.tmp 2) 1, none⟩,
      ⟨none, .store (.tmp 104) (.tmp 103) 1, none⟩] [2, 3, 4])))
    .skip))
  (.seq (.seq (.region [
    ⟨some 105, .faddr (.tmp 2) 1, none⟩,
    ⟨some 106, .load (.tmp 105) 1 false .plain, none⟩,
    ⟨some 107, .len false (.tmp 106), none⟩,
    ⟨some 108, .bin .geq (.tmp 107) (.const (.int .i64 40)), none⟩] [2, 3, 4, 108])
  (.cond (.tmp 108)
    (.seq (.region [
      ⟨some 109, .blank 3 (.tmp 2), none⟩,
      ⟨none, .store (.tmp 4) (.tmp 109) 3, none⟩,
      ⟨some 5, .mov (.const (.bool false)), none⟩] [4, 5])
    .ret)
    .skip))
  (.seq (.region [
    ⟨some 10, .mov (.const (.int .i64 0)), none⟩] [2, 3, 4, 10])
  tl142)))))))⟩ := rfl

theorem rowsPlain_take {k : Nat} {xs : List (List AV)} (h : rowsPlain xs = true) : rowsPlain (xs.take k) = true := by
  unfold rowsPlain at *
  rw [List.all_eq_true] at *
  exact fun x hx => h x (List.mem_of_mem_take hx)
theorem rowsPlain_drop {k : Nat} {xs : List (List AV)} (h : rowsPlain xs = true) : rowsPlain (xs.drop k) = true := by
  unfold rowsPlain at *
  rw [List.all_eq_true] at *
  exact fun x hx => h x (List.mem_of_mem_drop hx)
theorem rowsN : rowsPlain [] = true := rfl
theorem rowsG1 (a b c : T) (m n : Int) : rowsPlain [[.str a, .str b, .str c, .int .i64 m, .int .i64 n]] = true := by simp [rowsPlain]

def head142 (t : Int) (g0 gs : List Grant) (P : List (List AV)) (p : Parcel) (fr : Bool) (k : Nat) : St :=
  hd [(2, .ptr 2 0 0), (3, .ptr 3 0 0), (4, .ptr 4 0 0), (10, .int .i64 k)]
    ([.arr 5 (g0.map Grant.c), .arr 3 P, .box [.int .i64 t, .ref (if fr then 5 else 0), .ref 1], .box (p.c .bor), .box zeroL] ++ (if fr then [.arr 5 (gs.map Grant.c)] else [])) 2

theorem tail142 (t : Int) (ht : 0 ≤ t ∧ t ≤ 2000000) (g0 gs : List Grant) (P : List (List AV)) (p : Parcel) (fr : Bool) (hf : fr = false → g0 = gs) (hl : gs.length ≤ 1048576) (s : St) (hs : s.norm [2, 3, 4, 10] = head142 t g0 gs P p fr 0) :
    fin [.cell 4 3 true, .tmp 5] 2 (X F [.code tl142] (.normal, s)) = some (.tup [.agg [.int .i64 t, .sl .own 5 ((insG (newGrant t p) gs).map Grant.c), .sl .own 3 P], .bool true], [some (.arr 5 (g0.map Grant.c)), none]) := by
  have hw32 : IntKind.i64.wrap (t + 32) = t + 32 := i64w (by omega) (by omega)
  have hK := ltCount_le Grant.k p.hold gs
  have hat := fun i y => ltCount_at Grant.k (b := p.hold) (l := gs) (i := i) (y := y)
  have hst := fun y => ltCount_stop Grant.k (b := p.hold) (l := gs) (y := y)
  have hins : insG (newGrant t p) gs = gs.take (ltCount Grant.k p.hold gs) ++ newGrant t p :: gs.drop (ltCount Grant.k p.hold gs) := rfl
  rw [hins]
  generalize ltCount Grant.k p.hold gs = K at *
  simp [tl142]
  refine (loop_by (σ := Nat) (fun k => head142 t g0 gs P p fr k) (fun k => k ≤ K) (fun k => K - k) (fun _ => _) (fun k Y hk hY => ?_) 0 hs (Nat.zero_le _) ?_).trans rfl
  · have hw1 : IntKind.i64.wrap ((k : Int) + 1) = (k : Int) + 1 := i64w (by omega) (by omega)
    rcases Nat.lt_or_ge k K with h | h
    · have hkl : k < gs.length := by omega
      have hklI : (k : Int) < gs.length := by omega
      have hx : gs[k]? = some gs[k] := List.getElem?_eq_getElem hkl
      have hlt := hat k _ h hx
      unfold Grant.k at hlt
      cases fr
      · obtain rfl := hf rfl
        simp [head142, c142b1, zeroL, hklI, hkl, hlt]
        refine hY (k + 1) _ (by omega) (by omega) ?_
        simp [head142, zeroL, hw1, List.range, List.range.loop]
      · simp [head142, c142b1, zeroL, hklI, hkl, hlt]
        refine hY (k + 1) _ (by omega) (by omega) ?_
        simp [head142, zeroL, hw1, List.range, List.range.loop]
    · obtain rfl : k = K := by omega
      have f1 : k * 64 ≤ 140737488355328 := by omega
      have f2 : k ≤ 140737488355328 := by omega
      have f3 : (k + 1) * 64 ≤ 140737488355328 := by omega
      have f4 : k + 1 ≤ 140737488355328 := by omega
      have f5 : (k + 1 + (gs.length - k)) * 64 ≤ 140737488355328 := by omega
      have f6 : k + 1 + (gs.length - k) ≤ 140737488355328 := by omega
      have hklI : (k : Int) ≤ gs.length := by omega
      have hmin : min k gs.length = k := Nat.min_eq_left hK
      have hsum : k + (gs.length - k) = gs.length := by omega
      have t3 : ((gs.map Grant.c).drop k).take (gs.length - k) = (gs.map Grant.c).drop k := List.take_of_length_le (by simp)
      rcases Nat.lt_or_ge k gs.length with hkl | hkl
      · have hx : gs[k]? = some gs[k] := List.getElem?_eq_getElem hkl
        have hns := hst _ hx
        unfold Grant.k at hns
        have hkI : (k : Int) < gs.length := by omega
        cases fr
        · obtain rfl := hf rfl
          simp [head142, c142b1, zeroL, takeRows, rowsN, rowsG1, rowsPlain_take, rowsPlain_drop, hK, slBounds, newGrant, hw32, hkI, hkl, hns, f1, f2, f3, f4, f5, f6, hklI, hmin, hsum, t3]
        · simp [head142, c142b1, zeroL, takeRows, rowsN, rowsG1, rowsPlain_take, rowsPlain_drop, hK, slBounds, newGrant, hw32, hkI, hkl, hns, f1, f2, f3, f4, f5, f6, hklI, hmin, hsum, t3]
      · have hkI : ¬ (k : Int) < gs.length := by omega
        obtain rfl : gs.length = k := by omega
        cases fr
        · obtain rfl := hf rfl
          simp [head142, c142b1, zeroL, takeRows, rowsN, rowsG1, rowsPlain_take, rowsPlain_drop, hK, slBounds, newGrant, hw32, f1, f2, f3, f4, f5, f6]
        · simp [head142, c142b1, zeroL, takeRows, rowsN, rowsG1, rowsPlain_take, rowsPlain_drop, hK, slBounds, newGrant, hw32, f1, f2, f3, f4, f5, f6]
  · unfold big; omega

def head142b (l : Land) (p : Parcel) (acc : List Grant) (i : Nat) : St :=
  hd [(2, .ptr 2 0 0), (3, .ptr 3 0 0), (4, .ptr 4 0 0), (8, .ref 5), (9, .int .i64 i)]
    [.arr 5 (l.grants.map Grant.c), .arr 3 (l.places.map (Place.c .own)), .box [.int .i64 l.time, .ref 0, .ref 1], .box (p.c .bor), .box zeroL, .arr 5 (acc.map Grant.c)] 2
def res142 (l : Land) (p : Parcel) (gs : List Grant) : AV × List (Option AO) := if 40 ≤ gs.length then (.tup [.agg [.any, .any, .any], .bool false], [some (.arr 5 (l.grants.map Grant.c)), some (.arr 3 (l.places.map (Place.c .own)))])
  else (.tup [.agg [.int .i64 l.time, .sl .own 5 ((putBy Grant.k (newGrant l.time p) gs).map Grant.c), .sl .own 3 (l.places.map (Place.c .own))], .bool true], [some (.arr 5 (l.grants.map Grant.c)), none])

theorem law142 (l : Land) (p : Parcel) (ht : 0 ≤ l.time ∧ l.time ≤ 2000000) (hl : l.small) (hg : l.grants.length ≤ 40) (ha : Asc Grant.k l.grants) :
    F 142 [.agg (l.refs 0), .agg (p.c .bor)] l.arrs = some (match landGive l p with
      | some x => (.tup [.agg (x.c .own .own), .bool true], [some (.arr 5 (l.grants.map Grant.c)), none])
      | none => (.tup [.agg [.any, .any, .any], .bool false], [some (.arr 5 (l.grants.map Grant.c)), some (.arr 3 (l.places.map (Place.c .own)))])) := by
  refine F_run fn142 rfl ?_
  have w1 := law159 l .own p.berth p.copy p.hold hl
  have w2 := law139 l .own p.hold hl
  simp only [Land.c] at w1 w2
  unfold landGive
  cases q1 : l.places.any (wantsHold p.berth p.copy p.hold)
  · rw [q1] at w1
    simp [c142_cut, w1, Land.refs, Land.arrs]
  rw [q1] at w1
  rcases findG_cases p.hold l.grants 0 with ⟨h1, h2, h3⟩ | ⟨j, g, h1, h2, h3, h4⟩
  · rw [h1] at w2
    rw [h2]
    by_cases hlen : 40 ≤ l.grants.length
    · have hlenI : (40 : Int) ≤ l.grants.length := by omega
      have hl40 : lives40 l.time l.grants = l.grants.filter fun g => decide (l.time < g.til) := by unfold lives40; rw [if_pos hlen]
      rw [hl40]
      simp [c142_cut, w1, w2, Land.refs, Land.arrs, hlen, hlenI]
      refine (loop_list l.grants (fun i (acc : List Grant) => head142b l p acc i) (fun i acc => acc.length ≤ i ∧ Lacks Grant.k p.hold acc) (fun _ r acc => res142 l p (acc ++ r.filter fun g => decide (l.time < g.til))) (fun acc Y hacc => ?_) (fun i g r acc Y hgi hi hr hacc hY => ?_) [] ?_ ⟨Nat.le_refl _, fun y hy => by simp at hy⟩ ?_).trans ?_
      · have tl := tail142 l.time ht l.grants acc (l.places.map (Place.c .own)) p true (by simp) (by have := hacc.1; omega)
        rw [insG_lacks (x := newGrant l.time p) hacc.2] at tl
        by_cases h40 : 40 ≤ acc.length
        · have h40I : (40 : Int) ≤ acc.length := by omega
          simp [head142b, c142b0, zeroL, h40, h40I, res142]
        · have h40I : ¬ (40 : Int) ≤ acc.length := by omega
          simp [head142b, c142b0, zeroL, h40, h40I, res142]
          refine (tl _ ?_).trans ?_
          · simp [head142, zeroL, List.range, List.range.loop]
          · simp [newGrant]
      · have hw : IntKind.i64.wrap ((i : Int) + 1) = (i : Int) + 1 := i64w (by omega) (by omega)
        obtain ⟨_, hg2⟩ := List.getElem?_eq_some_iff.1 hgi
        have hiI : (i : Int) < l.grants.length := by omega
        have hc1 : (acc.length + 1) * 64 ≤ 140737488355328 := by have := hacc.1; omega
        have hc2 : acc.length + 1 ≤ 140737488355328 := by have := hacc.1; omega
        by_cases hti : l.time < g.til
        · simp [head142b, c142b0, zeroL, hi, hiI, hg2, hti, takeRows, rowsG1, hc1, hc2]
          rw [hY (acc ++ [g]) _ ⟨by simp; exact hacc.1, fun y hy => by
            rcases List.mem_append.1 hy with hy | hy
            · exact hacc.2 y hy
            · rw [List.mem_singleton.1 hy]; exact h3 g (List.mem_of_getElem? hgi)⟩ (by simp [head142b, zeroL, hw, List.range, List.range.loop])]
          simp
        · simp [head142b, c142b0, zeroL, hi, hiI, hg2, hti]
          rw [hY acc _ ⟨by have := hacc.1; omega, hacc.2⟩ (by simp [head142b, zeroL, hw, List.range, List.range.loop])]
      · simp [head142b, zeroL, List.range, List.range.loop]
      · unfold big; omega
      · by_cases h40 : 40 ≤ (l.grants.filter fun g => decide (l.time < g.til)).length <;> simp [res142, h40]
    · have hlenI : ¬ (40 : Int) ≤ l.grants.length := by omega
      have tl := tail142 l.time ht l.grants l.grants (l.places.map (Place.c .own)) p false (by simp) (by omega)
      rw [insG_lacks (x := newGrant l.time p) h3] at tl
      have hl40 : lives40 l.time l.grants = l.grants := by unfold lives40; rw [if_neg hlen]
      rw [hl40, if_neg hlen]
      simp [c142_cut, w1, w2, Land.refs, Land.arrs, hlen, hlenI]
      refine (tl _ ?_).trans ?_
      · simp [head142, zeroL, List.range, List.range.loop]
      · simp [newGrant]
  · rw [h3] at w2
    rw [h4]
    obtain ⟨hj, hgj⟩ := List.getElem?_eq_some_iff.1 h1
    have hjI : (j : Int) < l.grants.length := by omega
    simp only [Nat.zero_add] at w2
    have hb : blocks l.time p g = (decide (l.time < g.til) && !(sEq g.berth p.berth && (sEq g.copy p.copy && decide (g.at_ ≤ p.at_)))) := rfl
    cases qb : blocks l.time p g
    · have hgive : ∀ c : Bool, (decide (l.time < g.til) = false ∨ (sEq g.berth p.berth && (sEq g.copy p.copy && decide (g.at_ ≤ p.at_))) = true) := fun _ => by
        rw [qb] at hb
        cases x1 : decide (l.time < g.til)
        · exact .inl rfl
        · rw [x1] at hb
          simpa using hb.symm
      have hlen : ¬ (40 ≤ j + (l.grants.length - (j + 1))) := by omega
      have hlenI : ¬ ((40 : Int) ≤ (j : Int) + ((l.grants.length - (j + 1) : Nat) : Int)) := by omega
      have f1 : j * 64 ≤ 140737488355328 := by omega
      have f2 : j ≤ 140737488355328 := by omega
      have f3 : (j + (l.grants.length - (j + 1))) * 64 ≤ 140737488355328 := by omega
      have f4 : j + (l.grants.length - (j + 1)) ≤ 140737488355328 := by omega
      have hmin : min j l.grants.length = j := Nat.min_eq_left (by omega)
      have hjle : j ≤ l.grants.length := by omega
      have hj1 : j + 1 ≤ l.grants.length := by omega
      have hj1I : (j : Int) + 1 ≤ l.grants.length := by omega
      have hw1 : IntKind.i64.wrap ((j : Int) + 1) = (j : Int) + 1 := i64w (by omega) (by omega)
      have h0I : (0 : Int) ≤ (j : Int) + 1 := by omega
      have t3 : ((l.grants.map Grant.c).drop (j + 1)).take (l.grants.length - (j + 1)) = (l.grants.map Grant.c).drop (j + 1) := List.take_of_length_le (by simp)
      have tl := tail142 l.time ht l.grants (l.grants.take j ++ l.grants.drop (j + 1)) (l.places.map (Place.c .own)) p true (by simp) (by simp; omega)
      rw [insG_erase ha h1 h2] at tl
      rcases hgive true with x1 | x1
      · simp only [decide_eq_false_iff_not] at x1
        simp [c142_cut, w1, w2, Land.refs, Land.arrs, hj, hgj, hjI, x1, rowsN, rowsPlain_take, rowsPlain_drop, slBounds, takeRows, hlen, hlenI, f1, f2, f3, f4, hmin, hjle, hj1, hj1I, hw1, t3, h0I, qb]
        refine (tl _ ?_).trans ?_
        · simp [head142, zeroL, List.range, List.range.loop]
        · simp [newGrant]
      · simp only [Bool.and_eq_true, decide_eq_true_eq] at x1
        obtain ⟨x1, x2, x3⟩ := x1
        by_cases x0 : l.time < g.til
        · simp [c142_cut, w1, w2, Land.refs, Land.arrs, hj, hgj, hjI, x0, x1, x2, x3, rowsN, rowsPlain_take, rowsPlain_drop, slBounds, takeRows, hlen, hlenI, f1, f2, f3, f4, hmin, hjle, hj1, hj1I, hw1, t3, h0I, qb]
          refine (tl _ ?_).trans ?_
          · simp [head142, zeroL, List.range, List.range.loop]
          · simp [newGrant]
        · simp [c142_cut, w1, w2, Land.refs, Land.arrs, hj, hgj, hjI, x0, rowsN, rowsPlain_take, rowsPlain_drop, slBounds, takeRows, hlen, hlenI, f1, f2, f3, f4, hmin, hjle, hj1, hj1I, hw1, t3, h0I, qb]
          refine (tl _ ?_).trans ?_
          · simp [head142, zeroL, List.range, List.range.loop]
          · simp [newGrant]
    · rw [qb] at hb
      simp only [Bool.and_eq_true, decide_eq_true_eq, Bool.not_eq_true', Bool.true_eq] at hb
      obtain ⟨e1, e2⟩ := hb
      cases u1 : sEq g.berth p.berth
      · simp [c142_cut, w1, w2, Land.refs, Land.arrs, hj, hgj, hjI, e1, u1, qb]
      cases u2 : sEq g.copy p.copy
      · simp [c142_cut, w1, w2, Land.refs, Land.arrs, hj, hgj, hjI, e1, u1, u2, qb]
      rw [u1, u2] at e2
      simp at e2
      simp [c142_cut, w1, w2, Land.refs, Land.arrs, hj, hgj, hjI, e1, u1, u2, e2, qb]
end Go.Proofs.Ytgdjnflnfeakjaa

namespace Go.Proofs.Ytgdjnflnfeakjaa
open Go
set_option linter.unusedSimpArgs false
set_option maxRecDepth 100000

def eraseG (h : T) : List Grant → List Grant
  | [] => []
  | g :: r => if sEq g.hold h then r else g :: eraseG h r
theorem eraseG_at {h : T} {g : Grant} : ∀ {gs : List Grant} {j : Nat}, Asc Grant.k gs → gs[j]? = some g → g.hold = h → eraseG h gs = gs.take j ++ gs.drop (j + 1)
  | [], j, _, hj, _ => by simp at hj
  | z :: gs, j, ha, hj, he => by
    have h1 := List.pairwise_cons.1 ha
    cases j with
    | zero =>
      simp at hj
      subst hj
      simp [eraseG, he]
    | succ j =>
      have hg : gs[j]? = some g := by simpa using hj
      have hlt := h1.1 g (List.mem_of_getElem? hg)
      unfold Grant.k at hlt
      rw [he] at hlt
      have hne : sEq z.hold h = false := by
        cases q : sEq z.hold h with
        | false => rfl
        | true => rw [(sEq_iff _ _).1 q, sLt_irrefl] at hlt; cases hlt
      simp [eraseG, hne, eraseG_at h1.2 hg he]

def gotBack (p : Parcel) : Parcel := ⟨5, p.berth, 0, [], p.hold, ⟨#[]⟩, p.at_⟩
def givenP (p : Parcel) : Parcel := ⟨3, p.berth, 0, [], p.hold, p.copy, p.at_⟩
def landBack (l : Land) (p : Parcel) : Land := match grantOf p.hold l.grants with
  | some g => if sEq g.berth p.berth && decide (g.at_ ≤ p.at_) then { l with grants := eraseG p.hold l.grants } else l
  | none => l
def takeOk (p : Parcel) : Bool := isName p.berth && (isHold p.hold && (isName p.copy && inR p.at_ 0 1000000))
def landTake (l : Land) (p : Parcel) : Land × List Parcel :=
  if landOk l then
    if takeOk p then
      if p.kind = 2 then match landGive l p with
        | some x => (x, [givenP p])
        | none => (l, [])
      else if p.kind = 4 then (landBack l p, [gotBack p]) else (l, [])
    else (l, [])
  else (.zero, [])

theorem grantsGo_asc (t : Int) : ∀ (r pre : List Grant), Asc Grant.k pre → grantsGo t pre r = true → Asc Grant.k (pre ++ r)
  | [], pre, h, _ => by simpa using h
  | p :: r, pre, h, k => by
    simp only [grantsGo, Bool.and_eq_true] at k
    have e : ascG pre p = ascL Grant.k pre p := by unfold ascG ascL; cases pre.getLast? <;> rfl
    have h2 := (asc_snoc Grant.k pre p h).1 (by rw [← e]; exact k.2.1)
    have := grantsGo_asc t r (pre ++ [p]) h2 k.2.2
    simpa using this

theorem landOk_grants {l : Land} (h : landOk l = true) : Asc Grant.k l.grants ∧ 0 ≤ l.time ∧ l.time ≤ 2000000 ∧ l.grants.length ≤ 40 := by
  have h40 := (landOk_asc h).2.2
  simp only [landOk, inR, Bool.and_eq_true, decide_eq_true_eq] at h
  have := grantsGo_asc l.time l.grants [] (Asc.nil _) (by first | exact h.2.2.2.2.1 | exact h.2.2.2.1)
  exact ⟨by simpa using this, h.1.1, h.1.2, h40⟩

theorem law77 (l : Land) (m : Md) (p : Parcel) (hl : l.small) : F 77 [.agg (l.c .bor m), .agg (p.c .bor)] [] = some (.tup [.agg ((landTake l p).1.c .own .own), .sl .own 7 ((landTake l p).2.map (Parcel.c .own))], []) := by
  refine F_run fn77 rfl ?_
  have w1 := law24 l m hl
  have w2 := law121 l m hl
  simp only [Land.c] at w1 w2
  unfold landTake
  cases q1 : landOk l
  · simp [c77, w1, q1, Land.zero]
  rw [q1] at w1
  obtain ⟨ha, ht0, ht1, h40⟩ := landOk_grants q1
  cases q2 : takeOk p
  · unfold takeOk at q2
    cases u1 : isName p.berth
    · simp [c77, w1, w2, u1]
    cases u2 : isHold p.hold
    · simp [c77, w1, w2, u1, u2]
    cases u3 : isName p.copy
    · simp [c77, w1, w2, u1, u2, u3]
    cases u4 : inR p.at_ 0 1000000
    · simp [c77, w1, w2, u1, u2, u3, u4]
    rw [u1, u2, u3, u4] at q2
    cases q2
  unfold takeOk at q2
  simp only [Bool.and_eq_true] at q2
  obtain ⟨u1, u2, u3, u4⟩ := q2
  have w3 := law142 l p ⟨ht0, ht1⟩ hl h40 ha
  have w4 := law139 l .own p.hold hl
  simp only [Land.c, Land.refs, Land.arrs, Parcel.c] at w3 w4
  by_cases k2 : p.kind = 2
  · cases hg : landGive l p with
    | none =>
      rw [hg] at w3
      simp only at w3
      rw [k2] at w3
      simp [c77, w1, w2, w3, u1, u2, u3, u4, k2, hg]
    | some x =>
      rw [hg] at w3
      simp only [Land.c] at w3
      rw [k2] at w3
      simp [c77, w1, w2, w3, u1, u2, u3, u4, k2, hg, takeRows, givenP]
  · by_cases k4 : p.kind = 4
    · rcases findG_cases p.hold l.grants 0 with ⟨h1, h2, h3⟩ | ⟨j, g, h1, h2, h3, h4⟩
      · rw [h1] at w4
        simp [c77, w1, w2, w4, u1, u2, u3, u4, k4, landBack, h2, takeRows, gotBack]
      · rw [h3] at w4
        simp only [Nat.zero_add] at w4
        obtain ⟨hj, hgj⟩ := List.getElem?_eq_some_iff.1 h1
        have hjI : (j : Int) < l.grants.length := by omega
        cases x1 : sEq g.berth p.berth
        · simp [c77, w1, w2, w4, u1, u2, u3, u4, k4, landBack, h4, takeRows, gotBack, hj, hgj, hjI, x1]
        by_cases x2 : g.at_ ≤ p.at_
        · have f1 : j * 64 ≤ 140737488355328 := by omega
          have f2 : j ≤ 140737488355328 := by omega
          have f3 : (j + (l.grants.length - (j + 1))) * 64 ≤ 140737488355328 := by omega
          have f4 : j + (l.grants.length - (j + 1)) ≤ 140737488355328 := by omega
          have hmin : min j l.grants.length = j := Nat.min_eq_left (by omega)
          have hjle : j ≤ l.grants.length := by omega
          have hj1 : j + 1 ≤ l.grants.length := by omega
          have hj1I : (j : Int) + 1 ≤ l.grants.length := by omega
          have hw1 : IntKind.i64.wrap ((j : Int) + 1) = (j : Int) + 1 := i64w (by omega) (by omega)
          have h0I : (0 : Int) ≤ (j : Int) + 1 := by omega
          have t3 : ((l.grants.map Grant.c).drop (j + 1)).take (l.grants.length - (j + 1)) = (l.grants.map Grant.c).drop (j + 1) := List.take_of_length_le (by simp)
          have he := eraseG_at ha h1 h2
          simp [c77, w1, w2, w4, u1, u2, u3, u4, k4, landBack, h4, takeRows, gotBack, hj, hgj, hjI, x1, x2, rowsN, rowsPlain_take, rowsPlain_drop, slBounds, f1, f2, f3, f4, hmin, hjle, hj1, hj1I, hw1, t3, h0I, he]
        · simp [c77, w1, w2, w4, u1, u2, u3, u4, k4, landBack, h4, takeRows, gotBack, hj, hgj, hjI, x1, x2]
    · simp [c77, w1, w2, u1, u2, u3, u4, k2, k4]
end Go.Proofs.Ytgdjnflnfeakjaa

namespace Go.Proofs.Ytgdjnflnfeakjaa
open Go
set_option linter.unusedSimpArgs false
set_option maxRecDepth 100000

/-- The last one of this hold. -/
def lastG (h : T) : List Grant → Nat → Int → Int
  | [], _, a => a
  | g :: r, i, a => lastG h r (i + 1) (if sEq g.hold h then i else a)

theorem lastG_lacks {h : T} : ∀ {gs : List Grant} {i : Nat} {a : Int}, Lacks Grant.k h gs → lastG h gs i a = a
  | [], _, _, _ => rfl
  | g :: r, i, a, hl => by
    rw [lastG, sEq_ne (show g.hold ≠ h from hl g List.mem_cons_self)]
    exact lastG_lacks fun y hy => hl y (List.mem_cons_of_mem _ hy)

theorem lastG_find {h : T} : ∀ {gs : List Grant} {i : Nat}, Asc Grant.k gs → lastG h gs i (-1) = findG h i gs
  | [], _, _ => rfl
  | g :: r, i, ha => by
    have h1 := List.pairwise_cons.1 ha
    by_cases q : sEq g.hold h = true
    · rw [lastG, findG, if_pos q, if_pos q]
      refine lastG_lacks fun y hy e => ?_
      have := h1.1 y hy
      rw [e] at this
      unfold Grant.k at this
      rw [(sEq_iff _ _).1 q, sLt_irrefl] at this
      cases this
    · rw [lastG, findG, if_neg q, if_neg q]
      exact lastG_find h1.2

/-- What the loop over the places leaves. -/
def hasHold (ws : List Want) (c h : T) : Bool := match findW ws c with
  | some w => sEq w.hold h
  | none => false
def wantsLast (b c h : T) : List Place → Bool → Bool
  | [], a => a
  | q :: r, a => wantsLast b c h r (if sEq q.berth b then hasHold q.wants c h else a)

theorem hasHold_any {c h : T} : ∀ {ws : List Want}, Asc Want.copy ws → hasHold ws c h = ws.any fun w => sEq w.copy c && sEq w.hold h
  | [], _ => rfl
  | w :: r, ha => by
    have h1 := List.pairwise_cons.1 ha
    unfold hasHold findW
    rw [List.find?_cons, List.any_cons]
    cases q : sEq w.copy c
    · have := hasHold_any (c := c) (h := h) h1.2
      unfold hasHold findW at this
      simpa using this
    · have hn : (r.any fun w => sEq w.copy c && sEq w.hold h) = false := by
        rw [List.any_eq_false]
        intro y hy
        have := h1.1 y hy
        rw [(sEq_iff _ _).1 q] at this
        rw [sEq_ne (fun e => by rw [e, sLt_irrefl] at this; cases this)]
        simp
      rw [hn]
      simp

theorem wantsLast_skip {b c h : T} : ∀ {ps : List Place} {a : Bool}, (∀ p ∈ ps, p.berth ≠ b) → wantsLast b c h ps a = a ∧ ps.any (wantsHold b c h) = false
  | [], _, _ => ⟨rfl, rfl⟩
  | p :: r, a, hn => by
    have h1 := sEq_ne (hn p List.mem_cons_self)
    obtain ⟨h2, h3⟩ := wantsLast_skip (c := c) (h := h) (a := a) fun q hq => hn q (List.mem_cons_of_mem _ hq)
    refine ⟨by rw [wantsLast, h1]; exact h2, ?_⟩
    rw [List.any_cons, h3]
    simp [wantsHold, h1]

theorem wantsLast_any {b c h : T} : ∀ {ps : List Place}, Asc (·.berth) ps → (∀ p ∈ ps, Asc Want.copy p.wants) → wantsLast b c h ps false = ps.any (wantsHold b c h)
  | [], _, _ => rfl
  | p :: r, ha, hw => by
    have h1 := List.pairwise_cons.1 ha
    rw [wantsLast, List.any_cons]
    cases q : sEq p.berth b
    · rw [if_neg (by simp), wantsLast_any h1.2 fun q hq => hw q (List.mem_cons_of_mem _ hq)]
      simp [wantsHold, q]
    · have hn : ∀ y ∈ r, y.berth ≠ b := fun y hy e => by
        have := h1.1 y hy
        simp only at this
        rw [(sEq_iff _ _).1 q, e, sLt_irrefl] at this
        cases this
      obtain ⟨h2, h3⟩ := wantsLast_skip (c := c) (h := h) (a := hasHold p.wants c h) hn
      rw [if_pos rfl, h2, h3, hasHold_any (hw p List.mem_cons_self)]
      simp [wantsHold, q]

def tl76 : CCode := (.seq (.seq (.region [
    ⟨some 75, .faddr (.tmp 3) 0, none⟩,
    ⟨some 76, .load (.tmp 75) 1 false .plain, none⟩,
    ⟨some 77, .bin .eql (.tmp 76) (.const (.int .i64 4)), none⟩] [2, 3, 4, 6, 77])
  (.cond (.tmp 77)
    (.seq (.seq (.quiet [
      ⟨some 78, .mov (.tmp 6), none⟩,
      ⟨some 79, .bin .geq (.tmp 78) (.const (.int .i64 0)), none⟩,
      ⟨some 80, .mov (.tmp 79), none⟩,
      ⟨some 81, .faddr (.tmp 2) 1, some (80, true)⟩,
      ⟨some 82, .load (.tmp 81) 1 false .plain, some (80, true)⟩,
      ⟨some 83, .mov (.tmp 6), some (80, true)⟩,
      ⟨some 84, .iaddr 5 (.tmp 82) (.tmp 83), some (80, true)⟩,
      ⟨some 85, .faddr (.tmp 84) 1, some (80, true)⟩,
      ⟨some 86, .load (.tmp 85) 1 false .plain, some (80, true)⟩,
      ⟨some 87, .faddr (.tmp 3) 1, some (80, true)⟩,
      ⟨some 88, .load (.tmp 87) 1 false .plain, some (80, true)⟩,
      ⟨some 89, .bin .eql (.tmp 86) (.tmp 88), some (80, true)⟩,
      ⟨some 90, .pick (.tmp 80) (.tmp 89) (.const (.bool false)), none⟩,
      ⟨some 91, .mov (.tmp 90), none⟩,
      ⟨some 92, .faddr (.tmp 2) 1, some (91, true)⟩,
      ⟨some 93, .load (.tmp 92) 1 false .plain, some (91, true)⟩,
      ⟨some 94, .mov (.tmp 6), some (91, true)⟩,
      ⟨some 95, .iaddr 5 (.tmp 93) (.tmp 94), some (91, true)⟩,
      ⟨some 96, .faddr (.tmp 95) 3, some (91, true)⟩,
      ⟨some 97, .load (.tmp 96) 1 false .plain, some (91, true)⟩,
      ⟨some 98, .faddr (.tmp 3) 6, some (91, true)⟩,
      ⟨some 99, .load (.tmp 98) 1 false .plain, some (91, true)⟩,
      ⟨some 100, .bin .leq (.tmp 97) (.tmp 99), some (91, true)⟩,
      ⟨some 101, .pick (.tmp 91) (.tmp 100) (.const (.bool false)), none⟩] [2, 3, 4, 6, 101])
    (.cond (.tmp 101)
      (.loud [
        ⟨some 102, .faddr (.tmp 2) 1, none⟩,
        ⟨some 103, .load (.tmp 102) 1 false .plain, none⟩,
        ⟨some 104, .mov (.tmp 6), none⟩,
        ⟨some 105, .mov (.tmp 6), none⟩,
        ⟨some 106, .cut3 5 (.tmp 103) (.tmp 104) (.tmp 105), none⟩,
        ⟨some 107, .faddr (.tmp 2) 1, none⟩,
        ⟨some 108, .load (.tmp 107) 1 false .plain, none⟩,
        ⟨some 109, .mov (.tmp 6), none⟩,
        ⟨some 110, .bin .add (.tmp 109) (.const (.int .i64 1)), none⟩,
        ⟨some 111, .slice 5 (.tmp 108) (some (.tmp 110)) none, none⟩,
        ⟨some 112, .append 5 64 true (.tmp 106) (.tmp 111), none⟩,
        ⟨some 113, .faddr (.tmp 2) 1, none⟩,
        ⟨none, .store (.tmp 113) (.tmp 112) 1, none⟩] [0, 1, 0, 0, 15, 0, 32, 0, 128, 480, 1023, 2047, 4095] [2, 3, 4])
      .skip))
    (.seq (.loud [
      ⟨some 114, .load (.tmp 2) 3 true .plain, none⟩,
      ⟨some 115, .faddr (.tmp 3) 1, none⟩,
      ⟨some 116, .load (.tmp 115) 1 false .plain, none⟩,
      ⟨some 117, .faddr (.tmp 3) 4, none⟩,
      ⟨some 118, .load (.tmp 117) 1 false .plain, none⟩,
      ⟨some 119, .faddr (.tmp 3) 6, none⟩,
      ⟨some 120, .load (.tmp 119) 1 false .plain, none⟩,
      ⟨some 121, .build [.int .i64 0, .str ⟨#[]⟩, .int .i64 0, .sl .own 7 [], .str ⟨#[]⟩, .str ⟨#[]⟩, .int .i64 0] [(0, 1, .const (.int .i64 5)), (1, 1, .tmp 116), (4, 1, .tmp 118), (6, 1, .tmp 120)], none⟩,
      ⟨some 122, .bslice 7 [.int .i64 0, .str ⟨#[]⟩, .int .i64 0, .sl .own 7 [], .str ⟨#[]⟩, .str ⟨#[]⟩, .int .i64 0] 1 [(0, .tmp 121)], none⟩,
      ⟨none, .store (.tmp 4) (.tmp 114) 3, none⟩,
      ⟨some 5, .mov (.tmp 122), none⟩] [0, 0, 2, 0, 8, 0, 32, 126, 254, 1, 1023] [4, 5])
    .ret))
    .skip))
  (.seq (.region [
    ⟨some 9, .mov (.const (.bool false)), none⟩] [2, 3, 4, 6, 9])
  (.seq (.seq (.region [
    ⟨some 123, .faddr (.tmp 2) 2, none⟩,
    ⟨some 124, .load (.tmp 123) 1 false .plain, none⟩,
    ⟨some 125, .len false (.tmp 124), none⟩,
    ⟨some 126, .mov (.const (.int .i64 0)), none⟩] [2, 3, 4, 6, 9, 124, 125, 126])
  (.block 2
    (.loop [2, 3, 4, 6, 9, 124, 125, 126] c76b1)))
  (.seq (.seq (.region [
    ⟨some 152, .mov (.tmp 9), none⟩,
    ⟨some 153, .un .not (.tmp 152), none⟩] [2, 3, 4, 6, 153])
  (.cond (.tmp 153)
    (.seq (.region [
      ⟨some 154, .load (.tmp 2) 3 true .plain, none⟩,
      ⟨none, .store (.tmp 4) (.tmp 154) 3, none⟩,
      ⟨some 5, .mov (.const (.sl .own 7 [])), none⟩] [4, 5])
    .ret)
    .skip))
  (.seq (.region [
    ⟨some 155, .faddr (.tmp 3) 4, none⟩,
    ⟨some 156, .load (.tmp 155) 1 false .plain, none⟩,
    ⟨some 157, .faddr (.tmp 3) 1, none⟩,
    ⟨some 158, .load (.tmp 157) 1 false .plain, none⟩,
    ⟨some 159, .faddr (.tmp 3) 5, none⟩,
    ⟨some 160, .load (.tmp 159) 1 false .plain, none⟩,
    ⟨some 161, .faddr (.tmp 3) 6, none⟩,
    ⟨some 162, .load (.tmp 161) 1 false .plain, none⟩,
    ⟨some 163, .faddr (.tmp 2) 0, none⟩,
    ⟨some 164, .load (.tmp 163) 1 false .plain, none⟩,
    ⟨some 165, .bin .add (.tmp 164) (.const (.int .i64 32)), none⟩,
    ⟨some 166, .build [.str ⟨#[]⟩, .str ⟨#[]⟩, .str ⟨#[]⟩, .int .i64 0, .int .i64 0] [(0, 1, .tmp 156), (1, 1, .tmp 158), (2, 1, .tmp 160), (3, 1, .tmp 162), (4, 1, .tmp 165)], none⟩,
    ⟨some 14, .alloc [.str ⟨#[]⟩, .str ⟨#[]⟩, .str ⟨#[]⟩, .int .i64 0, .int .i64 0], none⟩,
    ⟨none, .store (.tmp 14) (.tmp 166) 5, none⟩] [2, 3, 4, 6, 14])
  (.seq (.region [
    ⟨some 167, .faddr (.tmp 3) 1, none⟩,
    ⟨some 168, .load (.tmp 167) 1 false .plain, none⟩,
    ⟨some 169, .faddr (.tmp 3) 4, none⟩,
    ⟨some 170, .load (.tmp 169) 1 false .plain, none⟩,
    ⟨some 171, .faddr (.tmp 3) 5, none⟩,
    ⟨some 172, .load (.tmp 171) 1 false .plain, none⟩,
    ⟨some 173, .faddr (.tmp 3) 6, none⟩,
    ⟨some 174, .load (.tmp 173) 1 false .plain, none⟩,
    ⟨some 175, .build [.int .i64 0, .str ⟨#[]⟩, .int .i64 0, .sl .own 7 [], .str ⟨#[]⟩, .str ⟨#[]⟩, .int .i64 0] [(0, 1, .const (.int .i64 3)), (1, 1, .tmp 168), (4, 1, .tmp 170), (5, 1, .tmp 172), (6, 1, .tmp 174)], none⟩,
    ⟨some 176, .bslice 7 [.int .i64 0, .str ⟨#[]⟩, .int .i64 0, .sl .own 7 [], .str ⟨#[]⟩, .str ⟨#[]⟩, .int .i64 0] 1 [(0, .tmp 175)], none⟩,
    ⟨some 15, .mov (.tmp 176), none⟩] [2, 3, 4, 6, 14, 15])
  (.seq (.seq (.region [
    ⟨some 177, .mov (.tmp 6), none⟩,
    ⟨some 178, .bin .geq (.tmp 177) (.const (.int .i64 0)), none⟩] [2, 3, 4, 6, 14, 15, 178])
  (.cond (.tmp 178)
    (.seq (.region [
      ⟨some 179, .faddr (.tmp 2) 1, none⟩,
      ⟨some 180, .load (.tmp 179) 1 false .plain, none⟩,
      ⟨some 181, .mov (.tmp 6), none⟩,
      ⟨some 182, .iaddr 5 (.tmp 180) (.tmp 181), none⟩,
      ⟨some 183, .load (.tmp 182) 5 true .plain, none⟩,
      ⟨some 16, .alloc [.str ⟨#[]⟩, .str ⟨#[]⟩, .str ⟨#[]⟩, .int .i64 0, .int .i64 0], none⟩,
      ⟨none, .store (.tmp 16) (.tmp 183) 5, none⟩] [2, 3, 4, 6, 14, 15, 16])
    (.seq (.seq (.region [
      ⟨some 184, .faddr (.tmp 16) 4, none⟩,
      ⟨some 185, .load (.tmp 184) 1 false .plain, none⟩,
      ⟨some 186, .faddr (.tmp 2) 0, none⟩,
      ⟨some 187, .load (.tmp 186) 1 false .plain, none⟩,
      ⟨some 188, .bin .gtr (.tmp 185) (.tmp 187), none⟩,
      ⟨some 189, .mov (.tmp 188), none⟩,
      ⟨some 190, .faddr (.tmp 16) 1, some (189, true)⟩,
      ⟨some 191, .load (.tmp 190) 1 false .plain, some (189, true)⟩,
      ⟨some 192, .faddr (.tmp 3) 1, some (189, true)⟩,
      ⟨some 193, .load (.tmp 192) 1 false .plain, some (189, true)⟩,
      ⟨some 194, .bin .eql (.tmp 191) (.tmp 193), some (189, true)⟩,
      ⟨some 195, .mov (.tmp 194), some (189, true)⟩,
      ⟨some 196, .faddr (.tmp 16) 2, some (195, true)⟩,
      ⟨some 197, .load (.tmp 196) 1 false .plain, some (195, true)⟩,
      ⟨some 198, .faddr (.tmp 3) 5, some (195, true)⟩,
      ⟨some 199, .load (.tmp 198) 1 false .plain, some (195, true)⟩,
      ⟨some 200, .bin .eql (.tmp 197) (.tmp 199), some (195, true)⟩,
      ⟨some 201, .pick (.tmp 195) (.tmp 200) (.const (.bool false)), some (189, true)⟩,
      ⟨some 202, .mov (.tmp 201), some (189, true)⟩,
      ⟨some 203, .faddr (.tmp 16) 3, some (202, true)⟩,
      ⟨some 204, .load (.tmp 203) 1 false .plain, some (202, true)⟩,
      ⟨some 205, .faddr (.tmp 3) 6, some (202, true)⟩,
      ⟨some 206, .load (.tmp 205) 1 false .plain, some (202, true)⟩,
      ⟨some 207, .bin .leq (.tmp 204) (.tmp 206), some (202, true)⟩,
      ⟨some 208, .pick (.tmp 202) (.tmp 207) (.const (.bool false)), some (189, true)⟩,
      ⟨some 209, .un .not (.tmp 208), some (189, true)⟩,
      ⟨some 210, .pick (.tmp 189) (.tmp 209) (.const (.bool false)), none⟩] [2, 4, 6, 14, 15, 210])
    (.cond (.tmp 210)
      (.seq (.region [
        ⟨some 211, .load (.tmp 2) 3 true .plain, none⟩,
        ⟨none, .store (.tmp 4) (.tmp 211) 3, none⟩,
        ⟨some 5, .mov (.const (.sl .own 7 [])), none⟩] [4, 5])
      .ret)
      .skip))
    (.seq (.region [
      ⟨some 212, .faddr (.tmp 2) 1, none⟩,
      ⟨some 213, .load (.tmp 212) 1 false .plain, none⟩,
      ⟨some 214, .mov (.tmp 6), none⟩,
      ⟨some 215, .load (.tmp 14) 5 true .plain, none⟩,
      ⟨some 216, .iaddr 5 (.tmp 213) (.tmp 214), none⟩,
      ⟨none, .store (.tmp 216) (.tmp 215) 5, none⟩] [2, 4, 15])
    (.seq (.region [
      ⟨some 217, .load (.tmp 2) 3 true .plain, none⟩,
      ⟨some 218, .mov (.tmp 15), none⟩,
      ⟨none, .store (.tmp 4) (.tmp 217) 3, none⟩,
      ⟨some 5, .mov (.tmp 218), none⟩] [4, 5])
    .ret))))
    .skip))
  (.seq (.loud [
    ⟨some 219, .faddr (.tmp 2) 1, none⟩,
    ⟨some 220, .load (.tmp 219) 1 false .plain, none⟩,
    ⟨some 221, .append 5 64 true (.const (.sl .own 5 [])) (.tmp 220), none⟩,
    ⟨some 222, .load (.tmp 14) 5 true .plain, none⟩,
    ⟨some 223, .bslice 5 [.str ⟨#[]⟩, .str ⟨#[]⟩, .str ⟨#[]⟩, .int .i64 0, .int .i64 0] 1 [(0, .tmp 222)], none⟩,
    ⟨some 224, .append 5 64 true (.tmp 221) (.tmp 223), none⟩,
    ⟨some 17, .alloc [.sl .own 5 []], none⟩,
    ⟨none, .store (.tmp 17) (.tmp 224) 1, none⟩] [0, 1, 3, 0, 8, 31, 0, 127] [2, 4, 15, 17])
  (.seq (.seq (.region [
    ⟨some 225, .load (.tmp 17) 1 false .plain, none⟩,
    ⟨some 226, .len false (.tmp 225), none⟩,
    ⟨some 227, .bin .gtr (.tmp 226) (.const (.int .i64 40)), none⟩] [2, 4, 15, 17, 227])
  (.cond (.tmp 227)
    (.seq (.region [
      ⟨some 18, .mov (.const (.sl .own 5 [])), none⟩] [2, 4, 15, 17, 18])
    (.seq (.seq (.region [
      ⟨some 228, .load (.tmp 17) 1 false .plain, none⟩,
      ⟨some 229, .len false (.tmp 228), none⟩,
      ⟨some 230, .mov (.const (.int .i64 0)), none⟩] [2, 4, 15, 17, 18, 228, 229, 230])
    (.block 4
      (.loop [2, 4, 15, 17, 18, 228, 229, 230] c76b2)))
    (.region [
      ⟨some 244, .mov (.tmp 18), none⟩,
      ⟨none, .store (.tmp 17) (.tmp 244) 1, none⟩] [2, 4, 15, 17])))
    .skip))
  (.seq (.seq (.region [
    ⟨some 245, .load (.tmp 17) 1 false .plain, none⟩,
    ⟨some 246, .len false (.tmp 245), none⟩,
    ⟨some 247, .bin .gtr (.tmp 246) (.const (.int .i64 40)), none⟩] [2, 4, 15, 17, 247])
  (.cond (.tmp 247)
    (.seq (.region [
      ⟨some 248, .load (.tmp 2) 3 true .plain, none⟩,
      ⟨none, .store (.tmp 4) (.tmp 248) 3, none⟩,
      ⟨some 5, .mov (.const (.sl .own 7 [])), none⟩] [4, 5])
    .ret)
    .skip))
  (.seq (.region [
    ⟨some 249, .load (.tmp 17) 1 false .plain, none⟩,
    ⟨some 250, .mkifs 184 (.tmp 249), none⟩,
    ⟨some 251, .mkclo 184 (.tmp 17), none⟩,
    ⟨some 252, .sortc 184 0 0 5 (.tmp 250) (.tmp 251), none⟩] [2, 4, 15, 17])
  (.seq (.region [
    ⟨some 253, .load (.tmp 17) 1 false .plain, none⟩,
    ⟨some 254, .faddr (.tmp 2) 1, none⟩,
    ⟨none, .store (.tmp 254) (.tmp 253) 1, none⟩] [2, 4, 15])
  (.seq (.region [
    ⟨some 255, .load (.tmp 2) 3 true .plain, none⟩,
    ⟨some 256, .mov (.tmp 15), none⟩,
    ⟨none, .store (.tmp 4) (.tmp 255) 3, none⟩,
    ⟨some 5, .mov (.tmp 256), none⟩] [4, 5])
  .ret)))))))))))))
theorem c76_cut : c76 = ⟨257, [.cell 4 3 true, .tmp 5],
  (.seq (.region [
    ⟨some 2, .box (.tmp 0), none⟩,
    ⟨some 3, .box (.tmp 1), none⟩,
    ⟨some 4, .alloc [.int .i64 0, .sl .own 5 [], .sl .own 3 []], none⟩,
    ⟨some 5, .mov (.const (.sl .own 7 [])), none⟩] [2, 3, 4])
  (.seq (.seq (.region [
    ⟨some 21, .load (.tmp 2) 3 true .plain, none⟩,
    ⟨some 22, .call 23 [false] [.tmp 21], none⟩,
    ⟨some 23, .un .not (.tmp 22), none⟩] [2, 3, 4, 23])
  (.cond (.tmp 23)
    (.seq (.region [
      ⟨some 24, .build [.int .i64 0, .sl .own 5 [], .sl .own 3 []] [], none⟩,
      ⟨none, .store (.tmp 4) (.tmp 24) 3, none⟩,
      ⟨some 5, .mov (.const (.sl .own 7 [])), none⟩] [4, 5])
    .ret)
    .skip))
  (.seq (.region [
    ⟨some 25, .load (.tmp 2) 3 true .plain, none⟩,
    ⟨some 26, .call 122 [false] [.tmp 25], none⟩,
    ⟨none, .store (.tmp 2) (.tmp 26) 3, none⟩] [2, 3, 4])
  (.seq (.seq (.region [
    ⟨some 27, .faddr (.tmp 3) 0, none⟩,
    ⟨some 28, .load (.tmp 27) 1 false .plain, none⟩,
    ⟨some 29, .bin .neq (.tmp 28) (.const (.int .i64 2)), none⟩,
    ⟨some 30, .mov (.tmp 29), none⟩,
    ⟨some 31, .faddr (.tmp 3) 0, some (30, true)⟩,
    ⟨some 32, .load (.tmp 31) 1 false .plain, some (30, true)⟩,
    ⟨some 33, .bin .neq (.tmp 32) (.const (.int .i64 4)), some (30, true)⟩,
    ⟨some 34, .pick (.tmp 30) (.tmp 33) (.const (.bool false)), none⟩,
    ⟨some 35, .mov (.tmp 34), none⟩,
    ⟨some 36, .faddr (.tmp 3) 1, some (35, false)⟩,
    ⟨some 37, .load (.tmp 36) 1 false .plain, some (35, false)⟩,
    ⟨some 38, .call 105 [false] [.tmp 37], some (35, false)⟩,
    ⟨some 39, .un .not (.tmp 38), some (35, false)⟩,
    ⟨some 40, .pick (.tmp 35) (.const (.bool true)) (.tmp 39), none⟩,
    ⟨some 41, .mov (.tmp 40), none⟩,
    ⟨some 42, .faddr (.tmp 3) 4, some (41, false)⟩,
    ⟨some 43, .load (.tmp 42) 1 false .plain, some (41, false)⟩,
    ⟨some 44, .call 106 [false] [.tmp 43], some (41, false)⟩,
    ⟨some 45, .un .not (.tmp 44), some (41, false)⟩,
    ⟨some 46, .pick (.tmp 41) (.const (.bool true)) (.tmp 45), none⟩,
    ⟨some 47, .mov (.tmp 46), none⟩,
    ⟨some 48, .faddr (.tmp 3) 5, some (47, false)⟩,
    ⟨some 49, .load (.tmp 48) 1 false .plain, some (47, false)⟩,
    ⟨some 50, .call 105 [false] [.tmp 49], some (47, false)⟩,
    ⟨some 51, .un .not (.tmp 50), some (47, false)⟩,
    ⟨some 52, .pick (.tmp 47) (.const (.bool true)) (.tmp 51), none⟩,
    ⟨some 53, .mov (.tmp 52), none⟩,
    ⟨some 54, .faddr (.tmp 3) 6, some (53, false)⟩,
    ⟨some 55, .load (.tmp 54) 1 false .plain, some (53, false)⟩,
    ⟨some 56, .call 85 [false, false, false] [.tmp 55, .const (.int .i64 0), .const (.int .i64 1000000)], some (53, false)⟩,
    ⟨some 57, .un .not (.tmp 56), some (53, false)⟩,
    ⟨some 58, .pick (.tmp 53) (.const (.bool true)) (.tmp 57), none⟩] [2, 3, 4, 58])
  (.cond (.tmp 58)
    (.seq (.region [
      ⟨some 59, .load (.tmp 2) 3 true .plain, none⟩,
      ⟨none, .store (.tmp 4) (.tmp 59) 3, none⟩,
      ⟨some 5, .mov (.const (.sl .own 7 [])), none⟩] [4, 5])
    .ret)
    .skip))
  (.seq (.region [
    ⟨some 6, .mov (.const (.int .i64 (-1))), none⟩] [2, 3, 4, 6])
  (.seq (.seq (.region [
    ⟨some 60, .faddr (.tmp 2) 1, none⟩,
    ⟨some 61, .load (.tmp 60) 1 false .plain, none⟩,
    ⟨some 62, .len false (.tmp 61), none⟩,
    ⟨some 63, .mov (.const (.int .i64 0)), none⟩] [2, 3, 4, 6, 61, 62, 63])
  (.block 0
    (.loop [2, 3, 4, 6, 61, 62, 63] c76b0)))
  tl76))))))⟩ := rfl

def head76a (l : Land) (p : Parcel) (i : Nat) (a : Int) : St :=
  hd [(2, .ptr 0 0 0), (3, .ptr 1 0 0), (4, .ptr 2 0 0), (6, .int .i64 a), (61, .ref 3), (62, .int .i64 l.grants.length), (63, .int .i64 i)]
    [.box [.int .i64 l.time, .ref 3, .ref 4], .box (p.c .bor), .box zeroL, .arr 5 (l.grants.map Grant.c), .arr 3 (l.places.map (Place.c .own))] 0
def head76b (l : Land) (p : Parcel) (a : Int) (i : Nat) (b : Bool) : St :=
  hd [(2, .ptr 0 0 0), (3, .ptr 1 0 0), (4, .ptr 2 0 0), (6, .int .i64 a), (9, .bool b), (124, .ref 3), (125, .int .i64 l.places.length), (126, .int .i64 i)]
    [.box [.int .i64 l.time, .ref 4, .ref 3], .box (p.c .bor), .box zeroL, .arr 3 (l.places.map (Place.c .own)), .arr 5 (l.grants.map Grant.c)] 0
def head76c (l : Land) (p : Parcel) (gs : List Grant) (i : Nat) (acc : List Grant) : St :=
  if acc = [] then hd [(2, .ptr 0 0 0), (4, .ptr 1 0 0), (15, .ref 2), (17, .ptr 3 0 0), (18, .sl .own 5 []), (228, .ref 4), (229, .int .i64 gs.length), (230, .int .i64 i)]
    [.box [.int .i64 l.time, .ref 5, .ref 6], .box zeroL, .arr 7 [(givenP p).c .own], .box [.ref 4], .arr 5 (gs.map Grant.c), .arr 5 (l.grants.map Grant.c), .arr 3 (l.places.map (Place.c .own))] 0
  else hd [(2, .ptr 0 0 0), (4, .ptr 1 0 0), (15, .ref 2), (17, .ptr 3 0 0), (18, .ref 4), (228, .ref 5), (229, .int .i64 gs.length), (230, .int .i64 i)]
    [.box [.int .i64 l.time, .ref 6, .ref 7], .box zeroL, .arr 7 [(givenP p).c .own], .box [.ref 5], .arr 5 (acc.map Grant.c), .arr 5 (gs.map Grant.c), .arr 5 (l.grants.map Grant.c), .arr 3 (l.places.map (Place.c .own))] 0

def landRes (r : Land × List Parcel) : AV × List (Option AO) := (.tup [.agg (r.1.c .own .own), .sl .own 7 (r.2.map (Parcel.c .own))], [])
def takeRes (l : Land) (p : Parcel) : Land × List Parcel := if p.kind = 2 then match landGive l p with
        | some x => (x, [givenP p])
        | none => (l, [])
      else (landBack l p, [gotBack p])

theorem placesGo_ok : ∀ (r pre : List Place), placesGo pre r = true → ∀ p ∈ r, placeOk p = true
  | [], _, _, p, hp => by simp at hp
  | q :: r, pre, k, p, hp => by
    simp only [placesGo, Bool.and_eq_true] at k
    rcases List.mem_cons.1 hp with rfl | hp
    · exact k.1
    · exact placesGo_ok r _ k.2.2.2 p hp
theorem landOk_placeOk {l : Land} (h : landOk l = true) : ∀ p ∈ l.places, placeOk p = true := by
  simp only [landOk, Bool.and_eq_true] at h
  exact placesGo_ok l.places [] h.2.2.2.2.2
theorem landOk_wants {l : Land} (h : landOk l = true) : ∀ p ∈ l.places, wantsOk p.wants = true := fun p hp => by
  have := landOk_placeOk h p hp
  simp only [placeOk, Bool.and_eq_true] at this
  exact this.2.2

theorem tail76 (l : Land) (p : Parcel) (hv : landOk l = true) (hk : p.kind = 2 ∨ p.kind = 4) (s : St) (hs : s.norm [2, 3, 4, 6, 61, 62, 63] = head76a l p 0 (-1)) :
    fin [.cell 4 3 true, .tmp 5] 0 (X F [.code (.loop [2, 3, 4, 6, 61, 62, 63] c76b0), .blk 0, .code tl76] (.normal, s)) = some (landRes (takeRes l p)) := by
  obtain ⟨ha, ht0, ht1, h40⟩ := landOk_grants hv
  obtain ⟨hpa, hp4, _⟩ := landOk_asc hv
  refine (loop_list l.grants (fun i (a : Int) => head76a l p i a) (fun i a => lastG p.hold (l.grants.drop i) i a = findG p.hold 0 l.grants) (fun _ _ _ => _) (fun a Y hinv => ?_) (fun i g r a Y hg hi hr hinv hY => ?_) (-1) hs (by rw [List.drop_zero]; exact lastG_find ha) ?_).trans rfl
  · rw [List.drop_length] at hinv
    simp only [lastG] at hinv
    subst hinv
    rcases hk with k2 | k4
    · simp [head76a, c76b0, tl76, zeroL, k2]
      refine (loop_list l.places (fun i (b : Bool) => head76b l p (findG p.hold 0 l.grants) i b) (fun i b => wantsLast p.berth p.copy p.hold (l.places.drop i) b = l.places.any (wantsHold p.berth p.copy p.hold)) (fun _ _ _ => _) (fun b Y hinv => ?_) (fun i q r b Y hq hi hr hinv hY => ?_) false ?_ ?_ ?_).trans rfl
      · rw [List.drop_length] at hinv
        simp only [wantsLast] at hinv
        unfold takeRes landGive
        rw [if_pos k2, ← hinv]
        cases b
        · simp [head76b, c76b1, zeroL, landRes]
        have hw32 : IntKind.i64.wrap (l.time + 32) = l.time + 32 := i64w (by omega) (by omega)
        rcases findG_cases p.hold l.grants 0 with ⟨h1, h2, h3⟩ | ⟨j, g, h1, h2, h3, h4⟩
        · rw [h1, h2]
          have g1 : (l.grants.length + 1) * 64 ≤ 140737488355328 := by omega
          have g2 : l.grants.length + 1 ≤ 140737488355328 := by omega
          have g3 : l.grants.length + 1 ≤ 1000000000 := by omega
          have g4 : l.grants.length * 64 ≤ 140737488355328 := by omega
          have g5 : l.grants.length ≤ 140737488355328 := by omega
          by_cases h40' : 40 ≤ l.grants.length
          · have hl40 : lives40 l.time l.grants = l.grants.filter fun g => decide (l.time < g.til) := by unfold lives40; rw [if_pos h40']
            rw [hl40]
            have hgt : (40 : Int) < l.grants.length + 1 := by omega
            simp [head76b, c76b1, zeroL, hw32, takeRows, rowsG1, g1, g2, g4, g5, hgt]
            obtain ⟨gs, hgs⟩ : ∃ gs, gs = l.grants ++ [newGrant l.time p] := ⟨_, rfl⟩
            have hgl : gs.length = l.grants.length + 1 := by rw [hgs]; simp
            refine (loop_list gs (fun i (acc : List Grant) => head76c l p gs i acc) (fun i acc => acc = (gs.take i).filter fun g => decide (l.time < g.til)) (fun _ _ _ => _) (fun acc Y2 hacc => ?_) (fun i g r acc Y2 hg hi hr hacc hY2 => ?_) [] ?_ ?_ ?_).trans rfl
            · have hnew : decide (l.time < (newGrant l.time p).til) = true := by
                have e : (newGrant l.time p).til = l.time + 32 := rfl
                rw [e, decide_eq_true_eq]
                omega
              rw [List.take_length, hgs, List.filter_append, List.filter_cons_of_pos (by simpa using hnew), List.filter_nil] at hacc
              have hne : acc ≠ [] := by rw [hacc]; simp
              have hal : acc.length = (l.grants.filter fun g => decide (l.time < g.til)).length + 1 := by rw [hacc]; simp
              have hfl := List.length_filter_le (fun g => decide (l.time < g.til)) l.grants
              by_cases hfull : 40 ≤ (l.grants.filter fun g => decide (l.time < g.til)).length
              · have hgt2 : (40 : Int) < acc.length := by omega
                simp [head76c, hne, c76b2, zeroL, hgt2, hgl, landRes, hfull]
              · have hgt2 : ¬ (40 : Int) < acc.length := by omega
                have hsort := sort_typed Grant.c Grant.k 0 (fun _ => rfl) (putBy_perm Grant.k (x := newGrant l.time p) (l := l.grants.filter fun g => decide (l.time < g.til)) (fun y hy => h3 y ((List.mem_filter.1 hy).1))) (putBy_asc Grant.k (ha.sublist (List.filter_sublist)))
                rw [← hacc] at hsort
                obtain ⟨s1, s2⟩ := hsort
                have g6 : acc.length ≤ 1000000000 := by omega
                simp [head76c, hne, c76b2, zeroL, hgt2, hgl, landRes, hfull, isRef, sortTab, s1, s2, g6]
            · have hw1 : IntKind.i64.wrap ((i : Int) + 1) = (i : Int) + 1 := i64w (by omega) (by omega)
              obtain ⟨_, hgi⟩ := List.getElem?_eq_some_iff.1 hg
              have hiI : (i : Int) < gs.length := by omega
              have htake : gs.take (i + 1) = gs.take i ++ [g] := by rw [List.take_add_one, hg]; rfl
              have hal : acc.length ≤ i := by rw [hacc]; exact Nat.le_trans (List.length_filter_le _ _) (by simp; omega)
              have hc1 : (acc.length + 1) * 64 ≤ 140737488355328 := by omega
              have hc2 : acc.length + 1 ≤ 140737488355328 := by omega
              by_cases hti : l.time < g.til
              · have hinv2 : acc ++ [g] = (gs.take (i + 1)).filter fun g => decide (l.time < g.til) := by rw [htake, List.filter_append, ← hacc]; simp [hti]
                by_cases hne : acc = []
                · subst hne
                  simp [head76c, c76b2, zeroL, hi, hiI, hgi, hti, takeRows, rowsG1]
                  refine hY2 [g] _ hinv2 ?_
                  simp [head76c, zeroL, hw1]
                · simp [head76c, hne, c76b2, zeroL, hi, hiI, hgi, hti, takeRows, rowsG1, hc1, hc2]
                  refine hY2 (acc ++ [g]) _ hinv2 ?_
                  simp [head76c, zeroL, hw1]
              · have hinv2 : acc = (gs.take (i + 1)).filter fun g => decide (l.time < g.til) := by rw [htake, List.filter_append, ← hacc]; simp [hti]
                by_cases hne : acc = []
                · rw [hne] at hinv2
                  simp [head76c, hne, c76b2, zeroL, hi, hiI, hgi, hti]
                  refine hY2 [] _ hinv2 ?_
                  simp [head76c, zeroL, hw1]
                · simp [head76c, hne, c76b2, zeroL, hi, hiI, hgi, hti]
                  refine hY2 acc _ hinv2 ?_
                  simp [head76c, hne, zeroL, hw1]
            · simp [head76c, zeroL, hgs, newGrant, givenP]
            · simp
            · unfold big; omega
          · have hl40 : lives40 l.time l.grants = l.grants := by unfold lives40; rw [if_neg h40']
            rw [hl40, if_neg h40']
            have hgt : ¬ (40 : Int) < l.grants.length + 1 := by omega
            have hsort := sort_typed Grant.c Grant.k 0 (fun _ => rfl) (putBy_perm Grant.k (x := newGrant l.time p) (l := l.grants) h3) (putBy_asc Grant.k ha)
            simp only [List.map_append, List.map_cons, List.map_nil, Grant.c, newGrant] at hsort
            obtain ⟨s1, s2⟩ := hsort
            simp [head76b, c76b1, zeroL, hw32, takeRows, rowsG1, g1, g2, g3, g4, g5, hgt, isRef, sortTab, s1, s2, landRes, givenP, newGrant]
        · rw [h3, h4]
          simp only [Nat.zero_add]
          obtain ⟨hj, hgj⟩ := List.getElem?_eq_some_iff.1 h1
          have hjI : (j : Int) < l.grants.length := by omega
          have hset := putBy_set (x := newGrant l.time p) Grant.k ha h1 (by unfold Grant.k; rw [h2]; rfl)
          rw [hset]
          by_cases e1 : l.time < g.til
          · cases u1 : sEq g.berth p.berth
            · simp [head76b, c76b1, zeroL, landRes, hj, hgj, hjI, hw32, e1, u1, blocks]
            cases u2 : sEq g.copy p.copy
            · simp [head76b, c76b1, zeroL, landRes, hj, hgj, hjI, hw32, e1, u1, u2, blocks]
            by_cases u3 : g.at_ ≤ p.at_
            · simp [head76b, c76b1, zeroL, landRes, hj, hgj, hjI, hw32, e1, u1, u2, u3, blocks, givenP, newGrant, List.map_set]
            · simp [head76b, c76b1, zeroL, landRes, hj, hgj, hjI, hw32, e1, u1, u2, u3, blocks]
          · simp [head76b, c76b1, zeroL, landRes, hj, hgj, hjI, hw32, e1, blocks, givenP, newGrant, List.map_set]
      · have hw1 : IntKind.i64.wrap ((i : Int) + 1) = (i : Int) + 1 := i64w (by omega) (by omega)
        obtain ⟨_, hgi⟩ := List.getElem?_eq_some_iff.1 hq
        have hiI : (i : Int) < l.places.length := by omega
        have hd : l.places.drop i = q :: l.places.drop (i + 1) := by rw [List.drop_eq_getElem_cons hi, hgi]
        rw [hd, wantsLast] at hinv
        have hwo := landOk_wants hv q (List.mem_of_getElem? hq)
        have w182 := law182 q.wants p.copy (by have := (wantsOk_iff _).1 hwo; unfold big; omega)
        cases x1 : sEq q.berth p.berth
        · rw [x1] at hinv
          simp [head76b, c76b1, zeroL, hi, hiI, hgi, x1]
          refine hY b _ hinv ?_
          simp [head76b, zeroL, hw1]
        · rw [x1] at hinv
          simp only [if_true] at hinv
          unfold hasHold at hinv
          cases x2 : findW q.wants p.copy with
          | none =>
            rw [x2] at w182 hinv
            simp [Want.zero] at w182
            simp [head76b, c76b1, zeroL, hi, hiI, hgi, x1, w182]
            refine hY false _ hinv ?_
            simp [head76b, zeroL, hw1]
          | some w =>
            rw [x2] at w182 hinv
            simp at w182
            simp [head76b, c76b1, zeroL, hi, hiI, hgi, x1, w182]
            refine hY (sEq w.hold p.hold) _ hinv ?_
            simp [head76b, zeroL, hw1]
      · simp [head76b, zeroL, k2]
      · rw [List.drop_zero]
        exact wantsLast_any hpa fun q hq => ((wantsOk_iff _).1 (landOk_wants hv q hq)).2.2.1
      · unfold big; omega
    · have k2 : ¬ p.kind = 2 := by omega
      unfold takeRes
      rw [if_neg k2]
      rcases findG_cases p.hold l.grants 0 with ⟨h1, h2, h3⟩ | ⟨j, g, h1, h2, h3, h4⟩
      · rw [h1]
        simp [head76a, c76b0, tl76, zeroL, k4, landBack, h2, gotBack, landRes]
      · rw [h3]
        simp only [Nat.zero_add]
        obtain ⟨hj, hgj⟩ := List.getElem?_eq_some_iff.1 h1
        have hjI : (j : Int) < l.grants.length := by omega
        cases x1 : sEq g.berth p.berth
        · simp [head76a, c76b0, tl76, zeroL, k4, landBack, h4, gotBack, hj, hgj, hjI, x1, landRes]
        by_cases x2 : g.at_ ≤ p.at_
        · have f3 : (j + (l.grants.length - (j + 1))) * 64 ≤ 140737488355328 := by omega
          have f4 : j + (l.grants.length - (j + 1)) ≤ 140737488355328 := by omega
          have hmin : min j l.grants.length = j := Nat.min_eq_left (by omega)
          have hjle : j ≤ l.grants.length := by omega
          have hjleI : (j : Int) ≤ l.grants.length := by omega
          have hj1 : j + 1 ≤ l.grants.length := by omega
          have hj1I : (j : Int) + 1 ≤ l.grants.length := by omega
          have hw1 : IntKind.i64.wrap ((j : Int) + 1) = (j : Int) + 1 := i64w (by omega) (by omega)
          have h0I : (0 : Int) ≤ (j : Int) + 1 := by omega
          have t3 : ((l.grants.map Grant.c).drop (j + 1)).take (l.grants.length - (j + 1)) = (l.grants.map Grant.c).drop (j + 1) := List.take_of_length_le (by simp)
          have he := eraseG_at ha h1 h2
          simp [head76a, c76b0, tl76, zeroL, k4, landBack, h4, takeRows, gotBack, hj, hgj, hjI, x1, x2, rowsN, rowsPlain_take, rowsPlain_drop, slBounds, f3, f4, hmin, hjle, hjleI, hj1, hj1I, hw1, t3, h0I, he, landRes]
        · simp [head76a, c76b0, tl76, zeroL, k4, landBack, h4, gotBack, hj, hgj, hjI, x1, x2, landRes]
  · have hw1 : IntKind.i64.wrap ((i : Int) + 1) = (i : Int) + 1 := i64w (by omega) (by omega)
    obtain ⟨_, hgi⟩ := List.getElem?_eq_some_iff.1 hg
    have hiI : (i : Int) < l.grants.length := by omega
    have hd : l.grants.drop i = g :: l.grants.drop (i + 1) := by rw [List.drop_eq_getElem_cons hi, hgi]
    rw [hd, lastG] at hinv
    cases q : sEq g.hold p.hold
    · rw [q] at hinv
      simp [head76a, c76b0, zeroL, hi, hiI, hgi, q]
      refine hY a _ hinv ?_
      simp [head76a, zeroL, hw1]
    · rw [q] at hinv
      simp [head76a, c76b0, zeroL, hi, hiI, hgi, q]
      refine hY i _ hinv ?_
      simp [head76a, zeroL, hw1]
  · unfold big; omega

theorem law76 (l : Land) (m : Md) (p : Parcel) (hl : l.small) : F 76 [.agg (l.c .bor m), .agg (p.c .bor)] [] = some (.tup [.agg ((landTake l p).1.c .own .own), .sl .own 7 ((landTake l p).2.map (Parcel.c .own))], []) := by
  refine F_run fn76 rfl ?_
  have w1 := law23 l m hl
  have w2 := law122 l m hl
  simp only [Land.c] at w1 w2
  unfold landTake
  cases q1 : landOk l
  · simp [c76_cut, w1, q1, Land.zero]
  rw [q1] at w1
  cases q2 : takeOk p
  · unfold takeOk at q2
    by_cases k2 : p.kind = 2
    · cases u1 : isName p.berth
      · simp [c76_cut, w1, w2, k2, u1]
      cases u2 : isHold p.hold
      · simp [c76_cut, w1, w2, k2, u1, u2]
      cases u3 : isName p.copy
      · simp [c76_cut, w1, w2, k2, u1, u2, u3]
      cases u4 : inR p.at_ 0 1000000
      · simp [c76_cut, w1, w2, k2, u1, u2, u3, u4]
      rw [u1, u2, u3, u4] at q2
      cases q2
    by_cases k4 : p.kind = 4
    · cases u1 : isName p.berth
      · simp [c76_cut, w1, w2, k4, u1]
      cases u2 : isHold p.hold
      · simp [c76_cut, w1, w2, k4, u1, u2]
      cases u3 : isName p.copy
      · simp [c76_cut, w1, w2, k4, u1, u2, u3]
      cases u4 : inR p.at_ 0 1000000
      · simp [c76_cut, w1, w2, k4, u1, u2, u3, u4]
      rw [u1, u2, u3, u4] at q2
      cases q2
    · simp [c76_cut, w1, w2, k2, k4]
  unfold takeOk at q2
  simp only [Bool.and_eq_true] at q2
  obtain ⟨u1, u2, u3, u4⟩ := q2
  by_cases k2 : p.kind = 2
  · simp [c76_cut, w1, w2, u1, u2, u3, u4, k2]
    refine (tail76 l p q1 (.inl k2) _ ?_).trans ?_
    · simp [head76a, zeroL, k2]
    · rw [takeRes, if_pos k2]
      rfl
  · by_cases k4 : p.kind = 4
    · simp [c76_cut, w1, w2, u1, u2, u3, u4, k4]
      refine (tail76 l p q1 (.inr k4) _ ?_).trans ?_
      · simp [head76a, zeroL, k4]
      · simp [landRes, takeRes, k4]
    · simp [c76_cut, w1, w2, k2, k4]
end Go.Proofs.Ytgdjnflnfeakjaa

namespace Go.Proofs.Ytgdjnflnfeakjaa
open Go
set_option linter.unusedSimpArgs false
set_option maxRecDepth 100000

theorem zeroLand_small' : Land.zero.small := ⟨by simp [Land.zero], by simp [Land.zero], by simp [Land.zero]⟩

theorem matePut_small {l : Land} {b : T} {ws : List Want} (h : l.small) (hw : ws.length ≤ 1048576) : (matePut l b ws).1.small ∧ (matePut l b ws).1.places.length ≤ 5 := by
  unfold matePut
  split
  case isFalse => exact ⟨zeroLand_small', by simp [Land.zero]⟩
  rename_i hv
  have h4 := (landOk_asc hv).2.1
  split
  case isFalse => exact ⟨h, by simp only; omega⟩
  split
  case isFalse => exact ⟨h, by simp only; omega⟩
  have hlen := putBy_len (fun p : Place => p.berth) ⟨b, seenAt b l.places, ws⟩ l.places
  refine ⟨⟨h.grants, by simp only [landPut, putPlace]; omega, fun p hp => ?_⟩, by simp only [landPut, putPlace]; omega⟩
  rcases mem_putBy (fun p : Place => p.berth) hp with rfl | hp
  · exact ⟨hw⟩
  · exact h.each p hp

end Go.Proofs.Ytgdjnflnfeakjaa

namespace Go.Proofs.Ytgdjnflnfeakjaa
open Go
set_option linter.unusedSimpArgs false
set_option maxRecDepth 100000

def tl158 : CCode := (.seq (.seq (.region [
    ⟨some 8, .mov (.const (.int .i64 0)), none⟩] [0, 2, 3, 8])
  (.block 4
    (.loop [0, 2, 3, 8] c158b4)))
  (.seq (.region [
    ⟨some 143, .load (.tmp 3) 3 true .plain, none⟩,
    ⟨none, .store (.tmp 2) (.tmp 143) 3, none⟩] [2])
  .ret))
theorem c158_cut : c158 = ⟨144, [.cell 2 3 true],
  (.seq (.region [
    ⟨some 2, .alloc [.int .i64 0, .sl .own 5 [], .sl .own 3 []], none⟩] [0, 2])
  (.seq (.region [
    ⟨some 11, .mov (.tmp 0), none⟩,
    ⟨some 12, .call 89 [true, false] [.tmp 11, .const (.int .i64 40)], none⟩,
    ⟨some 13, .bin .mul (.const (.int .i64 2)) (.tmp 12), none⟩,
    ⟨some 14, .build [.int .i64 0, .sl .own 5 [], .sl .own 3 []] [(0, 1, .tmp 13)], none⟩,
    ⟨some 3, .alloc [.int .i64 0, .sl .own 5 [], .sl .own 3 []], none⟩,
    ⟨none, .store (.tmp 3) (.tmp 14) 3, none⟩] [0, 2, 3])
  (.seq (.seq (.region [
    ⟨some 4, .mov (.const (.int .i64 0)), none⟩] [0, 2, 3, 4])
  (.block 0
    (.loop [0, 2, 3, 4] c158b0)))
  (.seq (.seq (.region [
    ⟨some 7, .mov (.const (.int .i64 0)), none⟩] [0, 2, 3, 7])
  (.block 2
    (.loop [0, 2, 3, 7] c158b1)))
  tl158))))⟩ := rfl

/-- Few, and of small numbers and texts. -/
structure Land.tame (l : Land) (g n : Nat) : Prop where
  time : 0 ≤ l.time ∧ l.time ≤ 1000
  grants : l.grants.length ≤ g
  places : l.places.length ≤ n
  each : ∀ p ∈ l.places, p.wants.length ≤ 10 ∧ ∀ w ∈ p.wants, Want.tame w

theorem Land.tame.small {l : Land} {g n : Nat} (h : l.tame g n) (hg : g ≤ 1000) (hn : n ≤ 1000) : l.small := ⟨by have := h.grants; omega, by have := h.places; omega, fun p hp => ⟨by have := (h.each p hp).1; omega⟩⟩

def gkN (gk : Bool) : Nat := if gk then 1 else 0
def lcells (n : Nat) (gk pk : Bool) (l : Land) : List AV := [.int .i64 l.time, if gk then .ref n else .sl .own 5 [], if pk then .ref (n + gkN gk) else .sl .own 3 []]
def larrs (gk pk : Bool) (l : Land) : List AO := (if gk then [.arr 5 (l.grants.map Grant.c)] else []) ++ (if pk then [.arr 3 (l.places.map (Place.c .own))] else [])
structure Lk (gk pk : Bool) (l : Land) : Prop where
  g : gk = false → l.grants = []
  p : pk = false → l.places = []

theorem putPlace_mem {b : T} {ws : List Want} {ps : List Place} {p : Place} (h : p ∈ putPlace b ws ps) : p.wants = ws ∨ p ∈ ps := by
  unfold putPlace at h
  rcases mem_putBy (fun p : Place => p.berth) h with rfl | h
  · exact .inl rfl
  · exact .inr h

theorem matePut_tame {l : Land} {g n : Nat} {b : T} {ws : List Want} (h : l.tame g n) (hl : ws.length ≤ 10) (hw : ∀ w ∈ ws, Want.tame w) : (matePut l b ws).2 = 0 → (matePut l b ws).1.tame g (n + 1) := by
  unfold matePut
  split
  case isFalse => intro h; cases h
  split
  case isFalse => intro h; cases h
  split
  case isFalse => intro h; cases h
  intro _
  have hlen := putBy_len (fun p : Place => p.berth) ⟨b, seenAt b l.places, ws⟩ l.places
  refine ⟨h.time, h.grants, by have := h.places; simp only [landPut, putPlace]; omega, fun p hp => ?_⟩
  rcases putPlace_mem hp with e | hp
  · rw [e]; exact ⟨hl, hw⟩
  · exact h.each p hp

theorem matePut_ok {l : Land} {b : T} {ws : List Want} (h : (matePut l b ws).2 = 0) : (matePut l b ws).1 = landPut l b ws := by
  unfold matePut at h ⊢
  by_cases h1 : landOk l = true
  · rw [if_pos h1] at h ⊢
    by_cases h2 : (isName b && wantsOk ws) = true
    · rw [if_pos h2] at h ⊢
      by_cases h3 : landOk (landPut l b ws) = true
      · rw [if_pos h3]
      · rw [if_neg h3] at h; cases h
    · rw [if_neg h2] at h; cases h
  · rw [if_neg h1] at h; cases h

def head158a (bs : List Int) (q : Int) (k : Bool) (l : Land) (i : Nat) : St :=
  hd [(0, .ptr 0 0 0), (2, .ptr 1 0 0), (3, .ptr 2 0 0), (4, .int .i64 i)] ([rdBox bs q, .box zeroL, .box (lcells 3 k k l)] ++ larrs k k l) 1

def head158b (bs : List Int) (q : Int) (gk pk : Bool) (l : Land) (i : Nat) : St :=
  hd [(0, .ptr 0 0 0), (2, .ptr 1 0 0), (3, .ptr 2 0 0), (7, .int .i64 i)] ([rdBox bs q, .box zeroL, .box (lcells 3 gk pk l)] ++ larrs gk pk l) 1

def head158c (bs : List Int) (q : Int) (gk pk : Bool) (l : Land) (i : Nat) : St :=
  hd [(0, .ptr 0 0 0), (2, .ptr 1 0 0), (3, .ptr 2 0 0), (8, .int .i64 i)] ([rdBox bs q, .box zeroL, .box (lcells 3 gk pk l)] ++ larrs gk pk l) 1
def head158d (bs : List Int) (q : Int) (l : Land) (pk : Bool) (i k : Nat) : St :=
  hd [(0, .ptr 0 0 0), (2, .ptr 1 0 0), (3, .ptr 2 0 0), (8, .int .i64 i), (9, .int .i64 k)] ([rdBox bs q, .box zeroL, .box (lcells 3 true pk l)] ++ larrs true pk l) 1
def head158e (bs : List Int) (q : Int) (l : Land) (i k j : Nat) : St :=
  hd [(0, .ptr 0 0 0), (2, .ptr 1 0 0), (3, .ptr 2 0 0), (8, .int .i64 i), (9, .int .i64 k), (10, .int .i64 j)] ([rdBox bs q, .box zeroL, .box (lcells 3 true true l)] ++ larrs true true l) 1

def tl158b : CCode := .seq (.region [⟨some 143, .load (.tmp 3) 3 true .plain, none⟩, ⟨none, .store (.tmp 2) (.tmp 143) 3, none⟩] [2]) .ret

theorem rest158c (bs : List Int) (p q : Int) (gk pk : Bool) (l : Land) (hb : Code bs) (h0 : 0 ≤ p) (hp : p ≤ 800000000) (hq : p ≤ q) (hq2 : q ≤ p + 121) (hk : Lk gk pk l) (ht : l.tame 3 3) (s : St) (hs : s.norm [0, 2, 3, 8] = head158c bs q gk pk l 0) :
    Ends (fin [.cell 2 3 true] 1 (X F [.code (.loop [0, 2, 3, 8] c158b4), .blk 4, .code tl158b] (.normal, s))) (Drew bs p 200 fun x => ∃ l : Land, x = .agg (l.c .own .own) ∧ l.tame 3 3) := by
  refine loop_end (σ := Nat × Int × Land) (fun z => head158c bs z.2.1 gk pk z.2.2 z.1) (fun z => z.1 ≤ z.2.2.grants.length ∧ p ≤ z.2.1 ∧ z.2.1 ≤ p + 121 + 4 * z.1 ∧ Lk gk pk z.2.2 ∧ z.2.2.tame 3 3) (fun z => z.2.2.grants.length - z.1) (fun z Y hinv hY => ?_) (0, q, l) hs ⟨by omega, hq, by simp only; omega, hk, ht⟩ (by have := ht.grants; unfold big; simp only; omega)
  obtain ⟨i, q, l⟩ := z
  obtain ⟨g1, g2, g3, g4, g6⟩ := hinv
  simp only at g1 g2 g3 g4 g6 hY ⊢
  have hgl := g6.grants
  have hpl := g6.places
  by_cases hi : i < l.grants.length
  · have hiI : (i : Int) < l.grants.length := by omega
    have hw : IntKind.i64.wrap ((i : Int) + 1) = (i : Int) + 1 := i64w (by omega) (by omega)
    cases gk
    · rw [g4.g rfl] at hi; simp at hi
    have mid : ∀ (s : St), s.norm [0, 2, 3, 8, 9] = head158d bs q l pk i 0 → Ends (fin [.cell 2 3 true] 1 (X F [.code (.loop [0, 2, 3, 8, 9] c158b3), .blk 6, .blk 5, .code (.region [⟨some 75, .mov (.tmp 8), none⟩, ⟨some 76, .bin .add (.tmp 75) (.const (.int .i64 1)), none⟩, ⟨some 8, .mov (.tmp 76), none⟩] [0, 2, 3, 8]), .back Y, .blk 4, .code tl158b] (.normal, s))) (Drew bs p 200 fun x => ∃ l : Land, x = .agg (l.c .own .own) ∧ l.tame 3 3) := fun s hs => by
      refine loop_end (σ := Nat × Int × Land) (fun z => head158d bs z.2.1 z.2.2 pk i z.1) (fun z => z.1 ≤ z.2.2.places.length ∧ p ≤ z.2.1 ∧ z.2.1 ≤ p + 121 + 4 * i + z.1 ∧ Lk true pk z.2.2 ∧ z.2.2.grants.length = l.grants.length ∧ z.2.2.tame 3 3) (fun z => z.2.2.places.length - z.1) (fun z Y2 hinv hY2 => ?_) (0, q, l) hs ⟨by omega, by simp only; omega, by simp only; omega, g4, rfl, g6⟩ (by simp only; unfold big; omega)
      obtain ⟨k, q, x⟩ := z
      obtain ⟨k1, k2, k3, k4, k5, k6⟩ := hinv
      simp only at k1 k2 k3 k4 k5 k6 hY2 ⊢
      have hxp := k6.places
      have next : ∀ (q' : Int) (x' : Land) (s' : St), p ≤ q' → q' ≤ p + 125 + 4 * i → Lk true pk x' → x'.grants.length = l.grants.length → x'.tame 3 3 → s'.norm [0, 2, 3, 8] = head158c bs q' true pk x' (i + 1) → Ends (fin [.cell 2 3 true] 1 (Y s')) (Drew bs p 200 fun x => ∃ l : Land, x = .agg (l.c .own .own) ∧ l.tame 3 3) := fun q' x' s' n1 n2 n3 n4 n5 n6 => hY (i + 1, q', x') s' ⟨by simp only; omega, n1, by simp only; omega, n3, n5⟩ (by simp only; omega) n6
      simp only [Land.c] at next
      by_cases hkp : k < x.places.length
      · have hkpI : (k : Int) < x.places.length := by omega
        have hwk : IntKind.i64.wrap ((k : Int) + 1) = (k : Int) + 1 := i64w (by omega) (by omega)
        cases pk
        · rw [k4.p rfl] at hkp; simp at hkp
        obtain ⟨b1, b2, b3⟩ := law89 bs q 4 hb (by omega) (by omega) (by omega)
        simp only [rdBox] at b1
        by_cases v1 : 0 < pickV bs q 4
        · obtain ⟨_, hpk⟩ := List.getElem?_eq_some_iff.1 (List.getElem?_eq_getElem hkp)
          obtain ⟨pl, hpl'⟩ : ∃ pl, x.places[k] = pl := ⟨_, rfl⟩
          have hpls := k6.each pl (hpl' ▸ List.getElem_mem _)
          simp [head158d, rdBox, lcells, larrs, gkN, zeroL, c158b3, hkpI, b1, v1]
          refine loop_end (σ := Nat × Land) (fun z => head158e bs (q + 1) z.2 i k z.1) (fun z => z.1 ≤ pl.wants.length ∧ z.2.places = x.places ∧ z.2.grants.length = l.grants.length ∧ z.2.tame 3 3) (fun z => pl.wants.length - z.1) (fun z Y3 hinv hY3 => ?_) (0, x) ?_ ⟨by omega, rfl, k5, k6⟩ (by simp only; unfold big; omega)
          · obtain ⟨j, y⟩ := z
            obtain ⟨j1, j2, j3, j4⟩ := hinv
            simp only at j1 j2 j3 j4 hY3 ⊢
            have hky : k < y.places.length := by rw [j2]; exact hkp
            have hyk : y.places[k] = pl := by simp only [j2]; exact hpl'
            have hiy : i < y.grants.length := by omega
            by_cases hj : j < pl.wants.length
            · have hjI : (j : Int) < pl.wants.length := by omega
              have hwj : IntKind.i64.wrap ((j : Int) + 1) = (j : Int) + 1 := i64w (by omega) (by omega)
              obtain ⟨w, hwt⟩ : ∃ w, pl.wants[j] = w := ⟨_, rfl⟩
              obtain ⟨g, hg⟩ : ∃ g, y.grants[i] = g := ⟨_, rfl⟩
              cases v2 : sEq w.hold g.hold
              · simp [head158e, rdBox, lcells, larrs, gkN, zeroL, c158b2, hky, hyk, hj, hjI, hwt, hiy, hg, v2]
                refine hY3 (j + 1, y) _ ⟨by simp only; omega, j2, j3, j4⟩ (by simp only; omega) ?_
                simp [head158e, rdBox, lcells, larrs, gkN, zeroL, hwj, List.range, List.range.loop]
              · simp [head158e, rdBox, lcells, larrs, gkN, zeroL, c158b2, hky, hyk, hj, hjI, hwt, hiy, hg, v2]
                refine hY3 (j + 1, ⟨y.time, y.grants.set i ⟨g.hold, pl.berth, w.copy, g.at_, g.til⟩, y.places⟩) _ ⟨by simp only; omega, j2, by simp [j3], ⟨j4.time, by simp; exact j4.grants, j4.places, j4.each⟩⟩ (by simp only; omega) ?_
                simp [head158e, rdBox, lcells, larrs, gkN, zeroL, hwj, List.range, List.range.loop, List.map_set]
            · have hjI : ¬ (j : Int) < pl.wants.length := by omega
              simp [head158e, rdBox, lcells, larrs, gkN, zeroL, c158b2, hky, hyk, hjI]
              refine hY2 (k + 1, q + 1, y) _ ⟨by simp only; rw [j2]; omega, by simp only; omega, by simp only; omega, ⟨by simp, by simp⟩, j3, j4⟩ (by simp only; rw [j2]; omega) ?_
              simp [head158d, rdBox, lcells, larrs, gkN, zeroL, hwk, List.range, List.range.loop]
          · simp [head158e, rdBox, lcells, larrs, gkN, zeroL, List.range, List.range.loop]
        · simp [head158d, rdBox, lcells, larrs, gkN, zeroL, c158b3, hkpI, b1, v1]
          refine next (q + 1) x _ (by omega) (by omega) k4 k5 k6 ?_
          simp [head158c, rdBox, lcells, larrs, gkN, zeroL, hw, List.range, List.range.loop]
      · have hkpI : ¬ (k : Int) < x.places.length := by omega
        have h0I : ¬ (k : Int) < 0 := by omega
        cases pk <;> simp [head158d, rdBox, lcells, larrs, gkN, zeroL, c158b3, hkpI, h0I] <;> refine next q x _ (by omega) (by omega) k4 k5 k6 ?_ <;> simp [head158c, rdBox, lcells, larrs, gkN, zeroL, hw, List.range, List.range.loop]
    cases pk <;> simp [head158c, rdBox, lcells, larrs, gkN, zeroL, c158b4, hiI] <;> refine mid _ ?_ <;> simp [head158d, rdBox, lcells, larrs, gkN, zeroL, List.range, List.range.loop]
  · have hiI : ¬ (i : Int) < l.grants.length := by omega
    have h0I : ¬ (i : Int) < 0 := by omega
    cases gk
    · have e1 := g4.g rfl
      cases pk
      · have e2 := g4.p rfl
        simp [head158c, rdBox, lcells, larrs, gkN, zeroL, c158b4, hiI, h0I, tl158b]
        exact ⟨_, q, rfl, by omega, by omega, l, by simp [e1, e2], g6⟩
      · simp [head158c, rdBox, lcells, larrs, gkN, zeroL, c158b4, hiI, h0I, tl158b]
        exact ⟨_, q, rfl, by omega, by omega, l, by simp [e1], g6⟩
    · cases pk
      · have e2 := g4.p rfl
        simp [head158c, rdBox, lcells, larrs, gkN, zeroL, c158b4, hiI, h0I, tl158b]
        exact ⟨_, q, rfl, by omega, by omega, l, by simp [e2], g6⟩
      · simp [head158c, rdBox, lcells, larrs, gkN, zeroL, c158b4, hiI, h0I, tl158b]
        exact ⟨_, q, rfl, by omega, by omega, l, by simp, g6⟩

theorem rest158 (bs : List Int) (p q : Int) (k : Bool) (l : Land) (hb : Code bs) (h0 : 0 ≤ p) (hp : p ≤ 800000000) (hq : p ≤ q) (hq2 : q ≤ p + 91) (hk : Lk k k l) (hg : l.grants = []) (ht : l.tame 3 3) (s : St) (hs : s.norm [0, 2, 3, 7] = head158b bs q k k l 0) :
    Ends (fin [.cell 2 3 true] 1 (X F [.code (.loop [0, 2, 3, 7] c158b1), .blk 2, .code tl158] (.normal, s))) (Drew bs p 200 fun x => ∃ l : Land, x = .agg (l.c .own .own) ∧ l.tame 3 3) := by
  refine loop_end (σ := Nat × Int × Bool × Land) (fun z => head158b bs z.2.1 z.2.2.1 k z.2.2.2 z.1) (fun z => z.1 ≤ 3 ∧ p ≤ z.2.1 ∧ z.2.1 ≤ p + 91 + 10 * z.1 ∧ Lk z.2.2.1 k z.2.2.2 ∧ z.2.2.2.grants.length ≤ z.1 ∧ z.2.2.2.tame 3 3) (fun z => 3 - z.1) (fun z Y hinv hY => ?_) (0, q, k, l) hs ⟨by omega, hq, by simp only; omega, hk, by simp [hg], ht⟩ (by unfold big; simp)
  obtain ⟨i, q, gk, l⟩ := z
  obtain ⟨g1, g2, g3, g4, g5, g6⟩ := hinv
  simp only at g1 g2 g3 g4 g5 g6 hY ⊢
  by_cases hi : i < 3
  · have hiI : (i : Int) < 3 := by omega
    have hw : IntKind.i64.wrap ((i : Int) + 1) = (i : Int) + 1 := i64w (by omega) (by omega)
    obtain ⟨b1, b2, b3⟩ := law89 bs q 2 hb (by omega) (by omega) (by omega)
    simp only [rdBox] at b1
    by_cases v1 : pickV bs q 2 = 0
    · obtain ⟨u1, u2, u3⟩ := law89 bs (q + 1) 2 hb (by omega) (by omega) (by omega)
      obtain ⟨x1, x2, x3⟩ := law89 bs (q + 1 + 1) 4 hb (by omega) (by omega) (by omega)
      obtain ⟨y1, y2, y3⟩ := law89 bs (q + 1 + 1 + 1) 40 hb (by omega) (by omega) (by omega)
      have ht2 := g6.time
      have e1 : IntKind.i64.wrap (l.time + 32) = l.time + 32 := i64w (by omega) (by omega)
      have e2 : IntKind.i64.wrap (l.time + 32 + 1) = l.time + 32 + 1 := i64w (by omega) (by omega)
      obtain ⟨z1, z2, z3⟩ := law89 bs (q + 1 + 1 + 1 + 1) (l.time + 32 + 1) hb (by omega) (by omega) (by omega)
      have u4 := u3 (by omega)
      have x4 := x3 (by omega)
      simp only [rdBox] at u1 x1 y1 z1
      have d1 := law140 (pickV bs (q + 1 + 1) 4).toNat (by omega)
      rw [Int.toNat_of_nonneg x2] at d1
      have d2 := cName_size (i := (pickV bs (q + 1 + 1) 4).toNat) (by omega)
      have d3 : (⟨#[99]⟩ : T).size + (dec (pickV bs (q + 1 + 1) 4).toNat).size ≤ 9223372036854775807 := by rw [app_size] at d2; omega
      generalize dec (pickV bs (q + 1 + 1) 4).toNat = nm at d1 d3
      have hsel2 := selN3 ⟨#[105, 112]⟩ ⟨#[118, 111, 108]⟩ ⟨#[118, 111, 108, 50]⟩ (k := i) (by simpa using hi)
      generalize [(⟨#[105, 112]⟩ : T), ⟨#[118, 111, 108]⟩, ⟨#[118, 111, 108, 50]⟩].getD i ⟨#[]⟩ = hold at hsel2
      have c1 : l.grants.length * 64 ≤ 140737488355328 := by omega
      have c2 : l.grants.length ≤ 140737488355328 := by omega
      have c3 : (l.grants.length + 1) * 64 ≤ 140737488355328 := by omega
      have c4 : l.grants.length + 1 ≤ 140737488355328 := by omega
      have hiI' : (pickV bs (q + 1) 2) < 2 := by omega
      have hiN : (pickV bs (q + 1) 2).toNat < 2 := by omega
      cases gk <;> cases k <;> simp [head158b, rdBox, lcells, larrs, gkN, zeroL, c158b1, hiI, hi, b1, v1, u1, u2, hiI', hiN, x1, y1, z1, e1, e2, d1, d3, hsel2, takeRows, rowsG1, c1, c2, c3, c4]
      all_goals
        refine hY (i + 1, q + 1 + 1 + 1 + 1 + 1, true, ⟨l.time, l.grants ++ [⟨hold, selT [⟨#[97]⟩, ⟨#[98]⟩] (pickV bs (q + 1) 2), ⟨#[99]⟩ ++ nm, pickV bs (q + 1 + 1 + 1) 40, pickV bs (q + 1 + 1 + 1 + 1) (l.time + 32 + 1)⟩], l.places⟩) _ ⟨by omega, by simp only; omega, by simp only; omega, ⟨by simp, g4.p⟩, by simp; omega, ⟨ht2, by simp; omega, g6.places, g6.each⟩⟩ (by simp only; omega) ?_
      · simp [head158b, rdBox, lcells, larrs, gkN, zeroL, hw, List.range, List.range.loop, g4.g rfl]
      · simp [head158b, rdBox, lcells, larrs, gkN, zeroL, hw, List.range, List.range.loop, g4.g rfl]
      · simp [head158b, rdBox, lcells, larrs, gkN, zeroL, hw, List.range, List.range.loop]
      · simp [head158b, rdBox, lcells, larrs, gkN, zeroL, hw, List.range, List.range.loop]
    · cases gk <;> cases k <;> simp [head158b, rdBox, c158b1, hiI, b1, v1] <;> refine hY (i + 1, q + 1, _, l) _ ⟨by omega, by simp only; omega, by simp only; omega, g4, by simp only; omega, g6⟩ (by simp only; omega) ?_ <;> simp [head158b, rdBox, lcells, larrs, gkN, zeroL, hw, List.range, List.range.loop]
  · have hiI : ¬ (i : Int) < 3 := by omega
    have key := rest158c bs p q gk k l hb h0 hp g2 (by omega) g4 g6
    simp only [Land.c] at key
    cases gk <;> cases k <;> simp [head158b, rdBox, lcells, larrs, gkN, zeroL, c158b1, hiI, tl158] <;> refine key _ ?_ <;> simp [head158c, rdBox, lcells, larrs, gkN, zeroL, List.range, List.range.loop]

theorem law158 (bs : List Int) (p : Int) (hb : Code bs) (h0 : 0 ≤ p) (hp : p ≤ 800000000) :
    Ends (F 158 [.ptr 0 0 0] [rdBox bs p]) (Drew bs p 200 fun x => ∃ l : Land, x = .agg (l.c .own .own) ∧ l.tame 3 3) := by
  refine F_ends fn158 rfl ?_
  obtain ⟨a1, a2, a3⟩ := law89 bs p 40 hb (by omega) (by omega) (by omega)
  have a4 := a3 (by omega)
  have hw2 : IntKind.i64.wrap (2 * pickV bs p 40) = 2 * pickV bs p 40 := i64w (by omega) (by omega)
  generalize pickV bs p 40 = t at *
  simp only [rdBox] at a1
  simp [c158_cut, rdBox, a1, hw2]
  refine loop_end (σ := Nat × Int × Bool × Land) (fun z => head158a bs z.2.1 z.2.2.1 z.2.2.2 z.1) (fun z => z.1 ≤ 3 ∧ p ≤ z.2.1 ∧ z.2.1 ≤ p + 1 + 30 * z.1 ∧ Lk z.2.2.1 z.2.2.1 z.2.2.2 ∧ z.2.2.2.grants = [] ∧ z.2.2.2.tame 3 z.1) (fun z => 3 - z.1) (fun z Y hinv hY => ?_) (0, p + 1, false, ⟨2 * t, [], []⟩) ?_ ?_ (by unfold big; simp)
  · obtain ⟨i, q, k, l⟩ := z
    obtain ⟨g1, g2, g3, g4, g5, g6⟩ := hinv
    simp only at g1 g2 g3 g4 g5 g6 hY ⊢
    by_cases hi : i < 3
    · have hiI : (i : Int) < 3 := by omega
      have hw : IntKind.i64.wrap ((i : Int) + 1) = (i : Int) + 1 := i64w (by omega) (by omega)
      obtain ⟨b1, b2, b3⟩ := law89 bs q 4 hb (by omega) (by omega) (by omega)
      simp only [rdBox] at b1
      by_cases v1 : 0 < pickV bs q 4
      · obtain ⟨_, c1, x, q', rfl, c2, c3, ws, rfl, c4, c5⟩ := law145 bs (q + 1) hb (by omega) (by omega)
        have c6 : ∀ b, _ := fun b => law72 l .own b ws (g6.small (by omega) (by omega)) (by omega)
        have c7 : ∀ b, _ := fun b => matePut_tame (b := b) g6 (by omega) c5
        have c8 : ∀ b, (matePut l b ws).2 = 0 → (matePut l b ws).1.grants = [] := fun b hz => by rw [matePut_ok hz]; exact g5
        simp only [rdBox] at c1
        simp only [Land.c] at c6
        have hsel2 := selN3 ⟨#[97]⟩ ⟨#[98]⟩ ⟨#[100]⟩ (k := i) (by simpa using hi)
        generalize [(⟨#[97]⟩ : T), ⟨#[98]⟩, ⟨#[100]⟩].getD i ⟨#[]⟩ = nm at hsel2
        specialize c6 nm
        specialize c7 nm
        specialize c8 nm
        generalize (matePut l nm ws).1 = x at c6 c7 c8
        generalize (matePut l nm ws).2 = code at c6 c7 c8
        by_cases hc : code = 0
        · cases k
          · have e1 := g4.g rfl
            have e2 := g4.p rfl
            simp only [e1, e2, List.map_nil] at c6
            simp [head158a, rdBox, lcells, larrs, gkN, zeroL, c158b0, hiI, hi, b1, v1, c1, hsel2, c6, hc]
            refine hY (i + 1, q', true, x) _ ⟨by omega, by simp only; omega, by simp only; omega, ⟨by simp, by simp⟩, c8 hc, c7 hc⟩ (by simp only; omega) ?_
            simp [head158a, rdBox, lcells, larrs, gkN, zeroL, hw, List.range, List.range.loop]
          · simp [head158a, rdBox, lcells, larrs, gkN, zeroL, c158b0, hiI, hi, b1, v1, c1, hsel2, c6, hc]
            refine hY (i + 1, q', true, x) _ ⟨by omega, by simp only; omega, by simp only; omega, ⟨by simp, by simp⟩, c8 hc, c7 hc⟩ (by simp only; omega) ?_
            simp [head158a, rdBox, lcells, larrs, gkN, zeroL, hw, List.range, List.range.loop]
        · cases k
          · have e1 := g4.g rfl
            have e2 := g4.p rfl
            simp only [e1, e2, List.map_nil] at c6
            simp [head158a, rdBox, lcells, larrs, gkN, zeroL, c158b0, hiI, hi, b1, v1, c1, hsel2, c6, hc]
            refine hY (i + 1, q', false, l) _ ⟨by omega, by simp only; omega, by simp only; omega, g4, g5, ⟨g6.time, g6.grants, Nat.le_succ_of_le g6.places, g6.each⟩⟩ (by simp only; omega) ?_
            simp [head158a, rdBox, lcells, larrs, gkN, zeroL, hw, List.range, List.range.loop]
          · simp [head158a, rdBox, lcells, larrs, gkN, zeroL, c158b0, hiI, hi, b1, v1, c1, hsel2, c6, hc]
            refine hY (i + 1, q', true, l) _ ⟨by omega, by simp only; omega, by simp only; omega, g4, g5, ⟨g6.time, g6.grants, Nat.le_succ_of_le g6.places, g6.each⟩⟩ (by simp only; omega) ?_
            simp [head158a, rdBox, lcells, larrs, gkN, zeroL, hw, List.range, List.range.loop]
      · simp [head158a, rdBox, c158b0, hiI, b1, v1]
        refine hY (i + 1, q + 1, k, l) _ ⟨by omega, by simp only; omega, by simp only; omega, g4, g5, ⟨g6.time, g6.grants, Nat.le_succ_of_le g6.places, g6.each⟩⟩ (by simp only; omega) ?_
        cases k <;> simp [head158a, rdBox, lcells, larrs, gkN, zeroL, hw, List.range, List.range.loop]
    · have hiI : ¬ (i : Int) < 3 := by omega
      have key := rest158 bs p q k l hb h0 hp g2 (by omega) g4 g5 ⟨g6.time, g6.grants, by have := g6.places; omega, g6.each⟩
      simp only [Land.c] at key
      cases k
      · simp [head158a, rdBox, c158b0, hiI]
        refine key _ ?_
        simp [head158b, rdBox, lcells, larrs, gkN, zeroL, List.range, List.range.loop]
      · simp [head158a, rdBox, c158b0, hiI]
        refine key _ ?_
        simp [head158b, rdBox, lcells, larrs, gkN, zeroL, List.range, List.range.loop]
  · simp [head158a, rdBox, lcells, larrs, zeroL, List.range, List.range.loop]
  · refine ⟨by omega, by simp only; omega, by simp only; omega, ⟨fun _ => rfl, fun _ => rfl⟩, rfl, ⟨by simp only; omega, by simp, by simp, fun p hp => by simp at hp⟩⟩
end Go.Proofs.Ytgdjnflnfeakjaa

namespace Go.Proofs.Ytgdjnflnfeakjaa
open Go
set_option linter.unusedSimpArgs false
set_option maxRecDepth 100000

/-- How inner slices are held. -/
def mdB : Bool → Md
  | false => .own
  | true => .imm
def IsLand (l : Land) (x : AV) : Prop := ∃ b : Bool, x = .agg (l.c .own (mdB b))
theorem isL {l : Land} {x : AV} (b : Bool) (h : x = .agg (l.c .own (mdB b))) : IsLand l x := ⟨b, h⟩

theorem law157 (bs : List Int) (p : Int) (l : Land) (hb : Code bs) (h0 : 0 ≤ p) (hp : p ≤ 800000000) (hl : l.tame 3 3) : Ends (F 157 [.ptr 0 0 0, .agg (l.c .bor .own)] [rdBox bs p]) (Drew bs p 60 fun x => ∃ l' : Land, IsLand l' x ∧ l'.small ∧ l'.grants.length ≤ 4 ∧ l'.places.length ≤ 4) := by
  have hs := hl.small (by omega) (by omega)
  have w0 := law121 l .own hs
  have hg3 := hl.grants
  have hp3 := hl.places
  have htm := hl.time
  obtain ⟨b1, b2, b3⟩ := law89 bs p 7 hb (by omega) (by omega) (by omega)
  simp only [rdBox] at b1
  simp only [Land.c] at w0
  refine F_ends fn157 rfl ?_
  by_cases k0 : pickV bs p 7 = 0
  · obtain ⟨c1, c2, c3⟩ := law89 bs (p + 1) 4 hb (by omega) (by omega) (by omega)
    have c4 := c3 (by omega)
    simp only [rdBox] at c1
    simp [c157, rdBox, w0, b1, k0, c1, c2, c4]
    exact ⟨_, p + 1 + 1, rfl, by omega, by omega, { l with time := selI [-2, 1, 2000000, 2000002] (pickV bs (p + 1) 4) }, isL false (by simp [mdB]), ⟨hs.grants, hs.places, hs.each⟩, by simp only; omega, by simp only; omega⟩
  by_cases k1 : pickV bs p 7 = 1
  · obtain ⟨c1, c2, c3⟩ := law89 bs (p + 1) 4 hb (by omega) (by omega) (by omega)
    have c4 := c3 (by omega)
    obtain ⟨d1, d2, d3⟩ := law89 bs (p + 1 + 1) 2 hb (by omega) (by omega) (by omega)
    have d4 := d3 (by omega)
    obtain ⟨e1, e2, e3⟩ := law89 bs (p + 1 + 1 + 1) 3 hb (by omega) (by omega) (by omega)
    have e4 := e3 (by omega)
    obtain ⟨f1, f2, f3⟩ := law89 bs (p + 1 + 1 + 1 + 1) 200 hb (by omega) (by omega) (by omega)
    have u1 : IntKind.i64.wrap (pickV bs (p + 1 + 1 + 1) 3 - 1) = pickV bs (p + 1 + 1 + 1) 3 - 1 := i64w (by omega) (by omega)
    have q1 : l.grants.length * 64 ≤ 140737488355328 := by omega
    have q2 : l.grants.length ≤ 140737488355328 := by omega
    have q3 : (l.grants.length + 1) * 64 ≤ 140737488355328 := by omega
    have q4 : l.grants.length + 1 ≤ 140737488355328 := by omega
    simp only [rdBox] at c1 d1 e1 f1
    simp [c157, rdBox, w0, b1, k0, k1, c1, c2, c4, d1, d2, d4, e1, f1, u1, takeRows, rowsG1, q1, q2, q3, q4]
    exact ⟨_, p + 1 + 1 + 1 + 1 + 1, rfl, by omega, by omega, { l with grants := l.grants ++ [⟨selT [⟨#[]⟩, ⟨#[122, 122]⟩, ⟨#[105, 112]⟩, ⟨#[42]⟩] (pickV bs (p + 1) 4), selT [⟨#[]⟩, ⟨#[97]⟩] (pickV bs (p + 1 + 1) 2), ⟨#[99]⟩, pickV bs (p + 1 + 1 + 1) 3 - 1, pickV bs (p + 1 + 1 + 1 + 1) 200⟩] }, isL false (by simp [mdB]), ⟨by simp; omega, hs.places, hs.each⟩, by simp; omega, by simp only; omega⟩
  by_cases k2 : pickV bs p 7 = 2
  · rcases hG : l.grants with _ | ⟨g, gs⟩
    · rw [hG] at w0
      simp only [List.map_nil] at w0
      simp [c157, rdBox, w0, b1, k0, k1, k2, hG]
      exact ⟨_, p + 1, rfl, by omega, by omega, l, isL false (by simp [mdB, hG]), hs, by omega, by omega⟩
    · rw [hG] at w0
      simp only [List.map_cons, Grant.c] at w0
      obtain ⟨c1, c2, c3⟩ := law89 bs (p + 1) 3 hb (by omega) (by omega) (by omega)
      have c4 := c3 (by omega)
      simp only [rdBox] at c1
      have hlen : gs.length ≤ 2 := by rw [hG] at hg3; simp at hg3; omega
      have hpos : (0 : Int) < (gs.length : Int) + 1 := by omega
      simp [c157, rdBox, w0, b1, k0, k1, k2, c1, c2, c4, hG, hpos]
      exact ⟨_, p + 1 + 1, rfl, by omega, by omega, { l with grants := { g with til := selI [-1, IntKind.i64.wrap (l.time + 32), IntKind.i64.wrap (IntKind.i64.wrap (l.time + 32) + 1)] (pickV bs (p + 1) 3) } :: gs }, isL false (by simp [mdB]), ⟨by simp; omega, hs.places, hs.each⟩, by simp; omega, by simp only; omega⟩
  by_cases k3 : pickV bs p 7 = 3
  · obtain ⟨c1, c2, c3⟩ := law89 bs (p + 1) 3 hb (by omega) (by omega) (by omega)
    have c4 := c3 (by omega)
    obtain ⟨d1, d2, d3⟩ := law89 bs (p + 1 + 1) 3 hb (by omega) (by omega) (by omega)
    obtain ⟨_, e1, x, q', rfl, e2, e3, ws, rfl, e4, e5⟩ := law145 bs (p + 1 + 1 + 1) hb (by omega) (by omega)
    have q1 : l.places.length * 48 ≤ 140737488355328 := by omega
    have q2 : l.places.length ≤ 140737488355328 := by omega
    have q3 : (l.places.length + 1) * 48 ≤ 140737488355328 := by omega
    have q4 : l.places.length + 1 ≤ 140737488355328 := by omega
    simp only [rdBox] at c1 d1 e1
    simp [c157, rdBox, w0, b1, k0, k1, k2, k3, c1, c2, c4, d1, e1, takeRows, q1, q2, q3, q4]
    refine ⟨_, q', rfl, by omega, by omega, { l with places := l.places ++ [⟨selT [⟨#[]⟩, ⟨#[122]⟩, ⟨#[97]⟩] (pickV bs (p + 1) 3), pickV bs (p + 1 + 1) 3, ws⟩] }, isL false (by simp [mdB]), ⟨hs.grants, by simp; omega, fun y hy => ?_⟩, by simp only; omega, by simp; omega⟩
    rcases List.mem_append.1 hy with hy | hy
    · exact hs.each y hy
    · rw [List.mem_singleton.1 hy]; exact ⟨by simp only; omega⟩
  by_cases k4 : pickV bs p 7 = 4
  · rcases hP : l.places with _ | ⟨y, ys⟩
    · rw [hP] at w0
      simp only [List.map_nil] at w0
      simp [c157, rdBox, w0, b1, k0, k1, k2, k3, k4, hP]
      exact ⟨_, p + 1, rfl, by omega, by omega, l, isL false (by simp [mdB, hP]), hs, by omega, by omega⟩
    · rw [hP] at w0
      simp only [List.map_cons, Place.c] at w0
      obtain ⟨c1, c2, c3⟩ := law89 bs (p + 1) 3 hb (by omega) (by omega) (by omega)
      have c4 := c3 (by omega)
      simp only [rdBox] at c1
      have hlen : ys.length ≤ 2 := by rw [hP] at hp3; simp at hp3; omega
      have hpos : (0 : Int) < (ys.length : Int) + 1 := by omega
      simp [c157, rdBox, w0, b1, k0, k1, k2, k3, k4, c1, c2, c4, hP, hpos]
      refine ⟨_, p + 1 + 1, rfl, by omega, by omega, { l with places := { y with seen := selI [0, 1000000, 1000001] (pickV bs (p + 1) 3) } :: ys }, isL false (by simp [mdB]), ⟨hs.grants, by simp; omega, fun z hz => ?_⟩, by simp only; omega, by simp; omega⟩
      rcases List.mem_cons.1 hz with rfl | hz
      · exact ⟨(hs.each y (by rw [hP]; exact List.mem_cons_self)).wants⟩
      · exact hs.each z (by rw [hP]; exact List.mem_cons_of_mem _ hz)
  by_cases k5 : pickV bs p 7 = 5
  · rcases hP : l.places with _ | ⟨y, ys⟩
    · rw [hP] at w0
      simp only [List.map_nil] at w0
      simp [c157, rdBox, w0, b1, k0, k1, k2, k3, k4, k5, hP]
      exact ⟨_, p + 1, rfl, by omega, by omega, l, isL false (by simp [mdB, hP]), hs, by omega, by omega⟩
    · have hlen : ys.length ≤ 2 := by rw [hP] at hp3; simp at hp3; omega
      have hpos : (0 : Int) < (ys.length : Int) + 1 := by omega
      have hye := hl.each y (by rw [hP]; exact List.mem_cons_self)
      rcases hW : y.wants with _ | ⟨v, vs⟩
      · rw [hP] at w0
        simp only [List.map_cons, Place.c, hW, List.map_nil] at w0
        simp [c157, rdBox, w0, b1, k0, k1, k2, k3, k4, k5, hpos, hP, hW]
        exact ⟨_, p + 1, rfl, by omega, by omega, l, isL false (by simp [mdB, hP, hW]), hs, by omega, by omega⟩
      · rw [hP] at w0
        simp only [List.map_cons, Place.c, hW, Want.c] at w0
        obtain ⟨w', p', c1, c2, c3, c4⟩ := law144 bs (p + 1) v hb (by omega) (by omega) (hye.2 v (by rw [hW]; exact List.mem_cons_self))
        have hvl : vs.length ≤ 9 := by have := hye.1; rw [hW] at this; simp at this; omega
        have hpos2 : (0 : Int) < (vs.length : Int) + 1 := by omega
        have hpl : rowsPlain ([AV.str v.copy, .int .i64 v.version, .str v.hold, .int .i64 v.pull, .int .i64 v.start, .int .i64 v.dies, .int .i64 v.grace] :: vs.map Want.c) = true := plain_want (v :: vs)
        simp only [rdBox, Want.c] at c1
        simp [c157, rdBox, w0, b1, k0, k1, k2, k3, k4, k5, hpos, hpos2, c1, hpl, AO.isArr, hP, hW]
        refine ⟨_, p', rfl, by omega, by omega, ⟨l.time, l.grants, { y with wants := w' :: vs } :: ys⟩, isL false (by simp [mdB]), ⟨hs.grants, by simp; omega, fun z hz => ?_⟩, by simp only; omega, by simp; omega⟩
        rcases List.mem_cons.1 hz with rfl | hz
        · exact ⟨by simp; omega⟩
        · exact hs.each z (by rw [hP]; exact List.mem_cons_of_mem _ hz)
  · rcases hP : l.places with _ | ⟨y, _ | ⟨z, zs⟩⟩
    · rw [hP] at w0
      simp only [List.map_nil] at w0
      simp [c157, rdBox, w0, b1, k0, k1, k2, k3, k4, k5, hP]
      exact ⟨_, p + 1, rfl, by omega, by omega, l, isL false (by simp [mdB, hP]), hs, by omega, by omega⟩
    · rw [hP] at w0
      simp only [List.map_cons, List.map_nil, Place.c] at w0
      simp [c157, rdBox, w0, b1, k0, k1, k2, k3, k4, k5, hP]
      exact ⟨_, p + 1, rfl, by omega, by omega, l, isL false (by simp [mdB, hP]), hs, by omega, by omega⟩
    · rw [hP] at w0
      simp only [List.map_cons, Place.c] at w0
      have hpos : (1 : Int) < (zs.length : Int) + 1 + 1 := by omega
      simp [c157, rdBox, w0, b1, k0, k1, k2, k3, k4, k5, hpos, AV.frz, hP]
      have hlen : zs.length ≤ 1 := by rw [hP] at hp3; simp at hp3; omega
      refine ⟨_, p + 1, rfl, by omega, by omega, ⟨l.time, l.grants, y :: { z with wants := y.wants } :: zs⟩, isL true (by simp [mdB, AV.frz]), ⟨hs.grants, by simp; omega, fun x hx => ?_⟩, by simp only; omega, by simp; omega⟩
      have hy := hs.each y (by rw [hP]; simp)
      rcases List.mem_cons.1 hx with rfl | hx
      · exact hy
      rcases List.mem_cons.1 hx with rfl | hx
      · exact ⟨hy.wants⟩
      · exact hs.each x (by rw [hP]; simp [hx])
end Go.Proofs.Ytgdjnflnfeakjaa
