/- Layer 7: a parcel's text: the plain function; the program's. · A text cut at a byte (spec.l7Cut), a word of a row (spec.l7At), a short number (spec.l7Number): what they answer. · spec.MateRead: a text read loosely, written again, compared. · impl.MateRead: its law. · A parcel's text, read: the reference's way and the program's come to the same. · The laws' own equalities, at one thing and itself. · Draws: parcels, their texts, wants and runs. · Draws: a parcel, a text to be read. -/
import Derived.Test.YtaikddhcplfpmaaGreatDoorB5
import Derived.IntWalk
namespace Go.Proofs.YtaikddhcplfpmaaGreatDoor
open Go
set_option linter.unusedSimpArgs false
set_option maxRecDepth 100000

theorem isName_size {s : T} (h : isName s = true) : s.size ≤ 20 := by
  simp only [isName, Bool.and_eq_true, decide_eq_true_eq] at h
  exact h.1.2
theorem holdOk_size {s : T} (h : (sEq s ⟨#[]⟩ || isHold s) = true) : s.size ≤ 20 := by
  rcases Bool.or_eq_true_iff.1 h with h | h
  · rw [(sEq_iff _ _).1 h]; decide
  · simp only [isHold, Bool.and_eq_true] at h
    exact isName_size h.1
theorem wantOk_fits {w : Want} (h : wantOk w = true) : w.fits := by
  simp only [wantOk, Bool.and_eq_true, inR, decide_eq_true_eq] at h
  obtain ⟨⟨⟨⟨⟨⟨h1, h2⟩, h3⟩, h4⟩, h5⟩, h6⟩, h7⟩ := h
  exact ⟨isName_size h1, holdOk_size h3, ⟨by omega, by omega⟩, ⟨by omega, by omega⟩, ⟨by omega, by omega⟩, ⟨by omega, by omega⟩, ⟨by omega, by omega⟩⟩
theorem wantOk_star {w : Want} (h : wantOk w = true) : sEq w.hold ⟨#[42]⟩ = false := by
  simp only [wantOk, Bool.and_eq_true] at h
  have h3 := h.1.1.1.1.2
  rcases Bool.or_eq_true_iff.1 h3 with h | h
  · rw [(sEq_iff _ _).1 h]; exact sEq_ne (by intro e; cases e)
  · simp only [isHold, Bool.and_eq_true, Bool.not_eq_true'] at h
    exact h.2

theorem formWant_size {w : Want} (h : w.fits) : (formWant w).size ≤ 90 := by
  obtain ⟨h1, h2, n1, n2, n3, n4, n5⟩ := h
  have b1 := (law140' _ n1.1 n1.2).2
  have b2 := (law140' _ n2.1 n2.2).2
  have b3 := (law140' _ n3.1 n3.2).2
  have b4 := (law140' _ n4.1 n4.2).2
  have b5 := (law140' _ n5.1 n5.2).2
  have hh := starOr_size h2
  have z1 : (⟨#[119, 97, 110, 116, 32]⟩ : T).size = 5 := rfl
  have z2 : (⟨#[32]⟩ : T).size = 1 := rfl
  have z3 : (⟨#[10]⟩ : T).size = 1 := rfl
  unfold formWant
  simp only [app_size]
  omega

theorem digit_eq {d : Nat} : digit d = ⟨#[UInt8.ofNat (48 + d)]⟩ := by
  unfold digit
  congr 2
  simp [UInt8.ofNat_add]
theorem dec_lib : ∀ n : Nat, (dec n).data.toList = Lib.decDigits n := by
  intro n
  induction n using Nat.strongRecOn with
  | ind n ih =>
    rw [dec, Lib.decDigits]
    split
    · rw [digit_eq]
    · rw [text_append, ih (n / 10) (by omega), digit_eq]
theorem itoa_dec {n : Int} (h : 0 ≤ n) : itoaT n = dec n.toNat := by
  apply text_ext
  rw [dec_lib]
  simp [itoaT, Lib.itoa, show ¬ n < 0 by omega]

def noHold (p : Parcel) : Bool := sEq p.hold ⟨#[]⟩ && (sEq p.copy ⟨#[]⟩ && p.at_ == 0)
def toldHead (p : Parcel) : T := (⟨#[116, 111, 108, 100, 32]⟩ : T) ++ p.berth ++ (⟨#[32]⟩ : T) ++ dec p.seen.toNat ++ (⟨#[10]⟩ : T)
def formWants (acc : T) : List Want → T
  | [] => acc
  | w :: ws => formWants (acc ++ formWant w) ws
def word (k : Int) : T := if k = 2 then (⟨#[97, 115, 107, 101, 100, 32]⟩ : T) else if k = 3 then (⟨#[103, 105, 118, 101, 110, 32]⟩ : T) else (⟨#[98, 97, 99, 107, 32]⟩ : T)
/-- A parcel's text, its parts looked at. -/
def formSw (p : Parcel) (h nh : Bool) : T :=
  if p.kind = 1 then (if inR p.seen 1 1000000 && (wantsOk p.wants && nh) then formWants (toldHead p) p.wants else ⟨#[]⟩)
  else if p.kind = 2 ∨ p.kind = 3 ∨ p.kind = 4 then (if h && (isName p.copy && (inR p.at_ 0 1000000 && (p.seen == 0 && p.wants.isEmpty))) then word p.kind ++ p.berth ++ (⟨#[32]⟩ : T) ++ p.hold ++ (⟨#[32]⟩ : T) ++ p.copy ++ (⟨#[32]⟩ : T) ++ dec p.at_.toNat ++ (⟨#[10]⟩ : T) else ⟨#[]⟩)
  else if p.kind = 5 then (if h && (sEq p.copy ⟨#[]⟩ && (inR p.at_ 0 1000000 && (p.seen == 0 && p.wants.isEmpty))) then (⟨#[103, 111, 116, 98, 97, 99, 107, 32]⟩ : T) ++ p.berth ++ (⟨#[32]⟩ : T) ++ p.hold ++ (⟨#[32]⟩ : T) ++ dec p.at_.toNat ++ (⟨#[10]⟩ : T) else ⟨#[]⟩)
  else if p.kind = 6 then (if inR p.seen 0 1000000 && (p.wants.isEmpty && nh) then (⟨#[104, 101, 114, 101, 32]⟩ : T) ++ p.berth ++ (⟨#[32]⟩ : T) ++ dec p.seen.toNat ++ (⟨#[10]⟩ : T) else ⟨#[]⟩)
  else ⟨#[]⟩
def parcelForm (p : Parcel) : T := if isName p.berth then formSw p (isHold p.hold) (noHold p) else ⟨#[]⟩

theorem inR_le {n a b : Int} (h : inR n a b = true) : a ≤ n ∧ n ≤ b := by simpa [inR] using h

def sw218 : CCode := (.seq (.seq (.region [
    ⟨some 40, .faddr (.tmp 1) 0, none⟩,
    ⟨some 41, .load (.tmp 40) 1 false .plain, none⟩] [1, 3, 4, 5, 6, 41])
  (.block 0
    (.seq (.region [
      ⟨some 43, .bin .eql (.tmp 41) (.const (.int .i64 1)), none⟩,
      ⟨some 42, .mov (.tmp 43), none⟩] [1, 3, 4, 5, 6, 41, 42])
    (.cond (.tmp 42)
      (.seq (.seq (.region [
        ⟨some 44, .faddr (.tmp 1) 2, none⟩,
        ⟨some 45, .load (.tmp 44) 1 false .plain, none⟩,
        ⟨some 46, .call 85 [false, false, false] [.tmp 45, .const (.int .i64 1), .const (.int .i64 1000000)], none⟩,
        ⟨some 47, .un .not (.tmp 46), none⟩,
        ⟨some 48, .mov (.tmp 47), none⟩,
        ⟨some 49, .faddr (.tmp 1) 3, some (48, false)⟩,
        ⟨some 50, .load (.tmp 49) 1 false .plain, some (48, false)⟩,
        ⟨some 51, .call 6 [false] [.tmp 50], some (48, false)⟩,
        ⟨some 52, .un .not (.tmp 51), some (48, false)⟩,
        ⟨some 53, .pick (.tmp 48) (.const (.bool true)) (.tmp 52), none⟩,
        ⟨some 54, .mov (.tmp 53), none⟩,
        ⟨some 55, .mov (.tmp 6), some (54, false)⟩,
        ⟨some 56, .un .not (.tmp 55), some (54, false)⟩,
        ⟨some 57, .pick (.tmp 54) (.const (.bool true)) (.tmp 56), none⟩] [1, 3, 57])
      (.cond (.tmp 57)
        (.seq (.region [
          ⟨some 2, .mov (.const (.str ⟨#[]⟩)), none⟩] [2])
        .ret)
        .skip))
      (.seq (.quiet [
        ⟨some 58, .faddr (.tmp 1) 1, none⟩,
        ⟨some 59, .load (.tmp 58) 1 false .plain, none⟩,
        ⟨some 60, .bin .add (.const (.str ⟨#[116, 111, 108, 100, 32]⟩)) (.tmp 59), none⟩,
        ⟨some 61, .bin .add (.tmp 60) (.const (.str ⟨#[32]⟩)), none⟩,
        ⟨some 62, .mov (.tmp 3), none⟩,
        ⟨some 63, .faddr (.tmp 1) 2, none⟩,
        ⟨some 64, .load (.tmp 63) 1 false .plain, none⟩,
        ⟨some 65, .callf (.tmp 62) [false] [.tmp 64], none⟩,
        ⟨some 66, .bin .add (.tmp 61) (.tmp 65), none⟩,
        ⟨some 67, .bin .add (.tmp 66) (.const (.str ⟨#[10]⟩)), none⟩,
        ⟨some 7, .mov (.tmp 67), none⟩] [1, 3, 7])
      (.seq (.seq (.region [
        ⟨some 68, .faddr (.tmp 1) 3, none⟩,
        ⟨some 69, .load (.tmp 68) 1 false .plain, none⟩,
        ⟨some 70, .len false (.tmp 69), none⟩,
        ⟨some 71, .mov (.const (.int .i64 0)), none⟩] [3, 7, 69, 70, 71])
      (.block 1
        (.loop [3, 7, 69, 70, 71] c218b0)))
      (.seq (.region [
        ⟨some 110, .mov (.tmp 7), none⟩,
        ⟨some 2, .mov (.tmp 110), none⟩] [2])
      .ret))))
      (.seq (.seq (.region [
        ⟨some 112, .bin .eql (.tmp 41) (.const (.int .i64 2)), none⟩,
        ⟨some 111, .mov (.tmp 112), none⟩] [1, 3, 4, 5, 6, 41, 111])
      (.cond (.tmp 111)
        .skip
        (.seq (.region [
          ⟨some 113, .bin .eql (.tmp 41) (.const (.int .i64 3)), none⟩,
          ⟨some 111, .mov (.tmp 113), none⟩] [1, 3, 4, 5, 6, 41, 111])
        (.cond (.tmp 111)
          .skip
          (.region [
            ⟨some 114, .bin .eql (.tmp 41) (.const (.int .i64 4)), none⟩,
            ⟨some 111, .mov (.tmp 114), none⟩] [1, 3, 4, 5, 6, 41, 111])))))
      (.cond (.tmp 111)
        (.seq (.seq (.region [
          ⟨some 115, .mov (.tmp 4), none⟩,
          ⟨some 116, .un .not (.tmp 115), none⟩,
          ⟨some 117, .mov (.tmp 116), none⟩,
          ⟨some 118, .faddr (.tmp 1) 5, some (117, false)⟩,
          ⟨some 119, .load (.tmp 118) 1 false .plain, some (117, false)⟩,
          ⟨some 120, .call 105 [false] [.tmp 119], some (117, false)⟩,
          ⟨some 121, .un .not (.tmp 120), some (117, false)⟩,
          ⟨some 122, .pick (.tmp 117) (.const (.bool true)) (.tmp 121), none⟩,
          ⟨some 123, .mov (.tmp 122), none⟩,
          ⟨some 124, .faddr (.tmp 1) 6, some (123, false)⟩,
          ⟨some 125, .load (.tmp 124) 1 false .plain, some (123, false)⟩,
          ⟨some 126, .call 85 [false, false, false] [.tmp 125, .const (.int .i64 0), .const (.int .i64 1000000)], some (123, false)⟩,
          ⟨some 127, .un .not (.tmp 126), some (123, false)⟩,
          ⟨some 128, .pick (.tmp 123) (.const (.bool true)) (.tmp 127), none⟩,
          ⟨some 129, .mov (.tmp 128), none⟩,
          ⟨some 130, .faddr (.tmp 1) 2, some (129, false)⟩,
          ⟨some 131, .load (.tmp 130) 1 false .plain, some (129, false)⟩,
          ⟨some 132, .bin .neq (.tmp 131) (.const (.int .i64 0)), some (129, false)⟩,
          ⟨some 133, .pick (.tmp 129) (.const (.bool true)) (.tmp 132), none⟩,
          ⟨some 134, .mov (.tmp 133), none⟩,
          ⟨some 135, .mov (.tmp 5), some (134, false)⟩,
          ⟨some 136, .un .not (.tmp 135), some (134, false)⟩,
          ⟨some 137, .pick (.tmp 134) (.const (.bool true)) (.tmp 136), none⟩] [1, 3, 137])
        (.cond (.tmp 137)
          (.seq (.region [
            ⟨some 2, .mov (.const (.str ⟨#[]⟩)), none⟩] [2])
          .ret)
          .skip))
        (.seq (.loud [
          ⟨some 138, .bslice 1 [.str ⟨#[]⟩] 3 [(0, .const (.str ⟨#[97, 115, 107, 101, 100]⟩)), (1, .const (.str ⟨#[103, 105, 118, 101, 110]⟩)), (2, .const (.str ⟨#[98, 97, 99, 107]⟩))], none⟩,
          ⟨some 139, .faddr (.tmp 1) 0, none⟩,
          ⟨some 140, .load (.tmp 139) 1 false .plain, none⟩,
          ⟨some 141, .bin .sub (.tmp 140) (.const (.int .i64 2)), none⟩,
          ⟨some 142, .iaddr 1 (.tmp 138) (.tmp 141), none⟩,
          ⟨some 143, .load (.tmp 142) 1 false .plain, none⟩,
          ⟨some 144, .faddr (.tmp 1) 1, none⟩,
          ⟨some 145, .load (.tmp 144) 1 false .plain, none⟩,
          ⟨some 146, .faddr (.tmp 1) 4, none⟩,
          ⟨some 147, .load (.tmp 146) 1 false .plain, none⟩,
          ⟨some 148, .faddr (.tmp 1) 5, none⟩,
          ⟨some 149, .load (.tmp 148) 1 false .plain, none⟩,
          ⟨some 150, .mov (.tmp 3), none⟩,
          ⟨some 151, .faddr (.tmp 1) 6, none⟩,
          ⟨some 152, .load (.tmp 151) 1 false .plain, none⟩,
          ⟨some 153, .callf (.tmp 150) [false] [.tmp 152], none⟩,
          ⟨some 154, .bslice 1 [.str ⟨#[]⟩] 5 [(0, .tmp 143), (1, .tmp 145), (2, .tmp 147), (3, .tmp 149), (4, .tmp 153)], none⟩,
          ⟨some 155, .call 230 [false, false] [.tmp 154, .const (.str ⟨#[32]⟩)], none⟩,
          ⟨some 156, .bin .add (.tmp 155) (.const (.str ⟨#[10]⟩)), none⟩,
          ⟨some 2, .mov (.tmp 156), none⟩] [0, 0, 2, 6, 15, 31, 0, 64, 0, 256, 0, 1024, 0, 0, 8192, 28672, 65535, 131071, 262143, 524287] [2])
        .ret))
        (.seq (.region [
          ⟨some 158, .bin .eql (.tmp 41) (.const (.int .i64 5)), none⟩,
          ⟨some 157, .mov (.tmp 158), none⟩] [1, 3, 4, 5, 6, 41, 157])
        (.cond (.tmp 157)
          (.seq (.seq (.region [
            ⟨some 159, .mov (.tmp 4), none⟩,
            ⟨some 160, .un .not (.tmp 159), none⟩,
            ⟨some 161, .mov (.tmp 160), none⟩,
            ⟨some 162, .faddr (.tmp 1) 5, some (161, false)⟩,
            ⟨some 163, .load (.tmp 162) 1 false .plain, some (161, false)⟩,
            ⟨some 164, .bin .neq (.tmp 163) (.const (.str ⟨#[]⟩)), some (161, false)⟩,
            ⟨some 165, .pick (.tmp 161) (.const (.bool true)) (.tmp 164), none⟩,
            ⟨some 166, .mov (.tmp 165), none⟩,
            ⟨some 167, .faddr (.tmp 1) 6, some (166, false)⟩,
            ⟨some 168, .load (.tmp 167) 1 false .plain, some (166, false)⟩,
            ⟨some 169, .call 85 [false, false, false] [.tmp 168, .const (.int .i64 0), .const (.int .i64 1000000)], some (166, false)⟩,
            ⟨some 170, .un .not (.tmp 169), some (166, false)⟩,
            ⟨some 171, .pick (.tmp 166) (.const (.bool true)) (.tmp 170), none⟩,
            ⟨some 172, .mov (.tmp 171), none⟩,
            ⟨some 173, .faddr (.tmp 1) 2, some (172, false)⟩,
            ⟨some 174, .load (.tmp 173) 1 false .plain, some (172, false)⟩,
            ⟨some 175, .bin .neq (.tmp 174) (.const (.int .i64 0)), some (172, false)⟩,
            ⟨some 176, .pick (.tmp 172) (.const (.bool true)) (.tmp 175), none⟩,
            ⟨some 177, .mov (.tmp 176), none⟩,
            ⟨some 178, .mov (.tmp 5), some (177, false)⟩,
            ⟨some 179, .un .not (.tmp 178), some (177, false)⟩,
            ⟨some 180, .pick (.tmp 177) (.const (.bool true)) (.tmp 179), none⟩] [1, 3, 180])
          (.cond (.tmp 180)
            (.seq (.region [
              ⟨some 2, .mov (.const (.str ⟨#[]⟩)), none⟩] [2])
            .ret)
            .skip))
          (.seq (.quiet [
            ⟨some 181, .faddr (.tmp 1) 1, none⟩,
            ⟨some 182, .load (.tmp 181) 1 false .plain, none⟩,
            ⟨some 183, .bin .add (.const (.str ⟨#[103, 111, 116, 98, 97, 99, 107, 32]⟩)) (.tmp 182), none⟩,
            ⟨some 184, .bin .add (.tmp 183) (.const (.str ⟨#[32]⟩)), none⟩,
            ⟨some 185, .faddr (.tmp 1) 4, none⟩,
            ⟨some 186, .load (.tmp 185) 1 false .plain, none⟩,
            ⟨some 187, .bin .add (.tmp 184) (.tmp 186), none⟩,
            ⟨some 188, .bin .add (.tmp 187) (.const (.str ⟨#[32]⟩)), none⟩,
            ⟨some 189, .mov (.tmp 3), none⟩,
            ⟨some 190, .faddr (.tmp 1) 6, none⟩,
            ⟨some 191, .load (.tmp 190) 1 false .plain, none⟩,
            ⟨some 192, .callf (.tmp 189) [false] [.tmp 191], none⟩,
            ⟨some 193, .bin .add (.tmp 188) (.tmp 192), none⟩,
            ⟨some 194, .bin .add (.tmp 193) (.const (.str ⟨#[10]⟩)), none⟩,
            ⟨some 2, .mov (.tmp 194), none⟩] [2])
          .ret))
          (.seq (.region [
            ⟨some 196, .bin .eql (.tmp 41) (.const (.int .i64 6)), none⟩,
            ⟨some 195, .mov (.tmp 196), none⟩] [1, 3, 5, 6, 195])
          (.cond (.tmp 195)
            (.seq (.seq (.region [
              ⟨some 197, .faddr (.tmp 1) 2, none⟩,
              ⟨some 198, .load (.tmp 197) 1 false .plain, none⟩,
              ⟨some 199, .call 85 [false, false, false] [.tmp 198, .const (.int .i64 0), .const (.int .i64 1000000)], none⟩,
              ⟨some 200, .un .not (.tmp 199), none⟩,
              ⟨some 201, .mov (.tmp 200), none⟩,
              ⟨some 202, .mov (.tmp 5), some (201, false)⟩,
              ⟨some 203, .un .not (.tmp 202), some (201, false)⟩,
              ⟨some 204, .pick (.tmp 201) (.const (.bool true)) (.tmp 203), none⟩,
              ⟨some 205, .mov (.tmp 204), none⟩,
              ⟨some 206, .mov (.tmp 6), some (205, false)⟩,
              ⟨some 207, .un .not (.tmp 206), some (205, false)⟩,
              ⟨some 208, .pick (.tmp 205) (.const (.bool true)) (.tmp 207), none⟩] [1, 3, 208])
            (.cond (.tmp 208)
              (.seq (.region [
                ⟨some 2, .mov (.const (.str ⟨#[]⟩)), none⟩] [2])
              .ret)
              .skip))
            (.seq (.quiet [
              ⟨some 209, .faddr (.tmp 1) 1, none⟩,
              ⟨some 210, .load (.tmp 209) 1 false .plain, none⟩,
              ⟨some 211, .bin .add (.const (.str ⟨#[104, 101, 114, 101, 32]⟩)) (.tmp 210), none⟩,
              ⟨some 212, .bin .add (.tmp 211) (.const (.str ⟨#[32]⟩)), none⟩,
              ⟨some 213, .mov (.tmp 3), none⟩,
              ⟨some 214, .faddr (.tmp 1) 2, none⟩,
              ⟨some 215, .load (.tmp 214) 1 false .plain, none⟩,
              ⟨some 216, .callf (.tmp 213) [false] [.tmp 215], none⟩,
              ⟨some 217, .bin .add (.tmp 212) (.tmp 216), none⟩,
              ⟨some 218, .bin .add (.tmp 217) (.const (.str ⟨#[10]⟩)), none⟩,
              ⟨some 2, .mov (.tmp 218), none⟩] [2])
            .ret))
            .skip))))))))))
  (.seq (.region [
    ⟨some 2, .mov (.const (.str ⟨#[]⟩)), none⟩] [2])
  .ret))
theorem c218_cut : c218 = ⟨219, [.tmp 2],
  (.seq (.region [
    ⟨some 1, .box (.tmp 0), none⟩,
    ⟨some 2, .mov (.const (.str ⟨#[]⟩)), none⟩] [1])
  (.seq (.region [
    ⟨some 3, .mov (.const (.fn 231)), none⟩] [1, 3])
  (.seq (.region [
    ⟨some 11, .faddr (.tmp 1) 4, none⟩,
    ⟨some 12, .load (.tmp 11) 1 false .plain, none⟩,
    ⟨some 13, .call 105 [false] [.tmp 12], none⟩,
    ⟨some 14, .mov (.tmp 13), none⟩,
    ⟨some 15, .faddr (.tmp 1) 4, some (14, true)⟩,
    ⟨some 16, .load (.tmp 15) 1 false .plain, some (14, true)⟩,
    ⟨some 17, .bin .neq (.tmp 16) (.const (.str ⟨#[42]⟩)), some (14, true)⟩,
    ⟨some 18, .pick (.tmp 14) (.tmp 17) (.const (.bool false)), none⟩,
    ⟨some 4, .mov (.tmp 18), none⟩] [1, 3, 4])
  (.seq (.seq (.region [
    ⟨some 19, .faddr (.tmp 1) 1, none⟩,
    ⟨some 20, .load (.tmp 19) 1 false .plain, none⟩,
    ⟨some 21, .call 105 [false] [.tmp 20], none⟩,
    ⟨some 22, .un .not (.tmp 21), none⟩] [1, 3, 4, 22])
  (.cond (.tmp 22)
    (.seq (.region [
      ⟨some 2, .mov (.const (.str ⟨#[]⟩)), none⟩] [2])
    .ret)
    .skip))
  (.seq (.region [
    ⟨some 23, .faddr (.tmp 1) 3, none⟩,
    ⟨some 24, .load (.tmp 23) 1 false .plain, none⟩,
    ⟨some 25, .len false (.tmp 24), none⟩,
    ⟨some 26, .bin .eql (.tmp 25) (.const (.int .i64 0)), none⟩,
    ⟨some 5, .mov (.tmp 26), none⟩] [1, 3, 4, 5])
  (.seq (.region [
    ⟨some 27, .faddr (.tmp 1) 4, none⟩,
    ⟨some 28, .load (.tmp 27) 1 false .plain, none⟩,
    ⟨some 29, .bin .eql (.tmp 28) (.const (.str ⟨#[]⟩)), none⟩,
    ⟨some 30, .mov (.tmp 29), none⟩,
    ⟨some 31, .faddr (.tmp 1) 5, some (30, true)⟩,
    ⟨some 32, .load (.tmp 31) 1 false .plain, some (30, true)⟩,
    ⟨some 33, .bin .eql (.tmp 32) (.const (.str ⟨#[]⟩)), some (30, true)⟩,
    ⟨some 34, .pick (.tmp 30) (.tmp 33) (.const (.bool false)), none⟩,
    ⟨some 35, .mov (.tmp 34), none⟩,
    ⟨some 36, .faddr (.tmp 1) 6, some (35, true)⟩,
    ⟨some 37, .load (.tmp 36) 1 false .plain, some (35, true)⟩,
    ⟨some 38, .bin .eql (.tmp 37) (.const (.int .i64 0)), some (35, true)⟩,
    ⟨some 39, .pick (.tmp 35) (.tmp 38) (.const (.bool false)), none⟩,
    ⟨some 6, .mov (.tmp 39), none⟩] [1, 3, 4, 5, 6])
  sw218))))))⟩ := rfl

def sw236 : CCode := (.seq (.seq (.region [
    ⟨some 42, .faddr (.tmp 1) 0, none⟩,
    ⟨some 43, .load (.tmp 42) 1 false .plain, none⟩] [1, 3, 43])
  (.block 0
    (.seq (.region [
      ⟨some 45, .bin .eql (.tmp 43) (.const (.int .i64 1)), none⟩,
      ⟨some 44, .mov (.tmp 45), none⟩] [1, 3, 43, 44])
    (.cond (.tmp 44)
      (.seq (.seq (.region [
        ⟨some 46, .faddr (.tmp 1) 3, none⟩,
        ⟨some 47, .load (.tmp 46) 1 false .plain, none⟩,
        ⟨some 48, .call 7 [false] [.tmp 47], none⟩,
        ⟨some 49, .un .not (.tmp 48), none⟩,
        ⟨some 50, .mov (.tmp 49), none⟩,
        ⟨some 51, .faddr (.tmp 1) 2, some (50, false)⟩,
        ⟨some 52, .load (.tmp 51) 1 false .plain, some (50, false)⟩,
        ⟨some 53, .call 102 [false, false, false] [.tmp 52, .const (.int .i64 1), .const (.int .i64 1000000)], some (50, false)⟩,
        ⟨some 54, .un .not (.tmp 53), some (50, false)⟩,
        ⟨some 55, .pick (.tmp 50) (.const (.bool true)) (.tmp 54), none⟩,
        ⟨some 56, .mov (.tmp 55), none⟩,
        ⟨some 57, .faddr (.tmp 1) 4, some (56, false)⟩,
        ⟨some 58, .load (.tmp 57) 1 false .plain, some (56, false)⟩,
        ⟨some 59, .bin .neq (.tmp 58) (.const (.str ⟨#[]⟩)), some (56, false)⟩,
        ⟨some 60, .pick (.tmp 56) (.const (.bool true)) (.tmp 59), none⟩,
        ⟨some 61, .mov (.tmp 60), none⟩,
        ⟨some 62, .faddr (.tmp 1) 5, some (61, false)⟩,
        ⟨some 63, .load (.tmp 62) 1 false .plain, some (61, false)⟩,
        ⟨some 64, .bin .neq (.tmp 63) (.const (.str ⟨#[]⟩)), some (61, false)⟩,
        ⟨some 65, .pick (.tmp 61) (.const (.bool true)) (.tmp 64), none⟩,
        ⟨some 66, .mov (.tmp 65), none⟩,
        ⟨some 67, .faddr (.tmp 1) 6, some (66, false)⟩,
        ⟨some 68, .load (.tmp 67) 1 false .plain, some (66, false)⟩,
        ⟨some 69, .bin .neq (.tmp 68) (.const (.int .i64 0)), some (66, false)⟩,
        ⟨some 70, .pick (.tmp 66) (.const (.bool true)) (.tmp 69), none⟩] [1, 70])
      (.cond (.tmp 70)
        (.seq (.region [
          ⟨some 2, .mov (.const (.str ⟨#[]⟩)), none⟩] [2])
        .ret)
        .skip))
      (.seq (.quiet [
        ⟨some 71, .faddr (.tmp 1) 1, none⟩,
        ⟨some 72, .load (.tmp 71) 1 false .plain, none⟩,
        ⟨some 73, .bin .add (.const (.str ⟨#[116, 111, 108, 100, 32]⟩)) (.tmp 72), none⟩,
        ⟨some 74, .bin .add (.tmp 73) (.const (.str ⟨#[32]⟩)), none⟩,
        ⟨some 75, .faddr (.tmp 1) 2, none⟩,
        ⟨some 76, .load (.tmp 75) 1 false .plain, none⟩,
        ⟨some 77, .call 140 [false] [.tmp 76], none⟩,
        ⟨some 78, .bin .add (.tmp 74) (.tmp 77), none⟩,
        ⟨some 79, .bin .add (.tmp 78) (.const (.str ⟨#[10]⟩)), none⟩,
        ⟨some 4, .mov (.tmp 79), none⟩] [1, 4])
      (.seq (.seq (.region [
        ⟨some 5, .mov (.const (.int .i64 0)), none⟩] [1, 4, 5])
      (.block 1
        (.loop [1, 4, 5] c236b0)))
      (.seq (.region [
        ⟨some 95, .mov (.tmp 4), none⟩,
        ⟨some 2, .mov (.tmp 95), none⟩] [2])
      .ret))))
      (.seq (.seq (.region [
        ⟨some 97, .bin .eql (.tmp 43) (.const (.int .i64 2)), none⟩,
        ⟨some 96, .mov (.tmp 97), none⟩] [1, 3, 43, 96])
      (.cond (.tmp 96)
        .skip
        (.seq (.region [
          ⟨some 98, .bin .eql (.tmp 43) (.const (.int .i64 3)), none⟩,
          ⟨some 96, .mov (.tmp 98), none⟩] [1, 3, 43, 96])
        (.cond (.tmp 96)
          .skip
          (.region [
            ⟨some 99, .bin .eql (.tmp 43) (.const (.int .i64 4)), none⟩,
            ⟨some 96, .mov (.tmp 99), none⟩] [1, 3, 43, 96])))))
      (.cond (.tmp 96)
        (.seq (.region [
          ⟨some 100, .mov (.tmp 3), none⟩,
          ⟨some 101, .mov (.tmp 100), none⟩,
          ⟨some 102, .faddr (.tmp 1) 5, some (101, true)⟩,
          ⟨some 103, .load (.tmp 102) 1 false .plain, some (101, true)⟩,
          ⟨some 104, .call 101 [false] [.tmp 103], some (101, true)⟩,
          ⟨some 105, .pick (.tmp 101) (.tmp 104) (.const (.bool false)), none⟩] [1, 105])
        (.cond (.tmp 105)
          (.seq (.loud [
            ⟨some 106, .bslice 1 [.str ⟨#[]⟩] 3 [(0, .const (.str ⟨#[97, 115, 107, 101, 100, 32]⟩)), (1, .const (.str ⟨#[103, 105, 118, 101, 110, 32]⟩)), (2, .const (.str ⟨#[98, 97, 99, 107, 32]⟩))], none⟩,
            ⟨some 107, .faddr (.tmp 1) 0, none⟩,
            ⟨some 108, .load (.tmp 107) 1 false .plain, none⟩,
            ⟨some 109, .bin .sub (.tmp 108) (.const (.int .i64 2)), none⟩,
            ⟨some 110, .iaddr 1 (.tmp 106) (.tmp 109), none⟩,
            ⟨some 111, .load (.tmp 110) 1 false .plain, none⟩,
            ⟨some 112, .faddr (.tmp 1) 1, none⟩,
            ⟨some 113, .load (.tmp 112) 1 false .plain, none⟩,
            ⟨some 114, .bin .add (.tmp 111) (.tmp 113), none⟩,
            ⟨some 115, .bin .add (.tmp 114) (.const (.str ⟨#[32]⟩)), none⟩,
            ⟨some 116, .faddr (.tmp 1) 4, none⟩,
            ⟨some 117, .load (.tmp 116) 1 false .plain, none⟩,
            ⟨some 118, .bin .add (.tmp 115) (.tmp 117), none⟩,
            ⟨some 119, .bin .add (.tmp 118) (.const (.str ⟨#[32]⟩)), none⟩,
            ⟨some 120, .faddr (.tmp 1) 5, none⟩,
            ⟨some 121, .load (.tmp 120) 1 false .plain, none⟩,
            ⟨some 122, .bin .add (.tmp 119) (.tmp 121), none⟩,
            ⟨some 123, .bin .add (.tmp 122) (.const (.str ⟨#[32]⟩)), none⟩,
            ⟨some 124, .faddr (.tmp 1) 6, none⟩,
            ⟨some 125, .load (.tmp 124) 1 false .plain, none⟩,
            ⟨some 126, .call 140 [false] [.tmp 125], none⟩,
            ⟨some 127, .bin .add (.tmp 123) (.tmp 126), none⟩,
            ⟨some 128, .bin .add (.tmp 127) (.const (.str ⟨#[10]⟩)), none⟩,
            ⟨some 2, .mov (.tmp 128), none⟩] [0, 0, 2, 6, 15, 31, 0, 64, 255, 511, 0, 1024, 4095, 8191, 0, 16384, 65535, 131071, 0, 262144, 786432, 2097151, 4194303, 8388607] [2])
          .ret)
          .skip))
        (.seq (.region [
          ⟨some 130, .bin .eql (.tmp 43) (.const (.int .i64 5)), none⟩,
          ⟨some 129, .mov (.tmp 130), none⟩] [1, 3, 43, 129])
        (.cond (.tmp 129)
          (.seq (.region [
            ⟨some 131, .mov (.tmp 3), none⟩,
            ⟨some 132, .mov (.tmp 131), none⟩,
            ⟨some 133, .faddr (.tmp 1) 5, some (132, true)⟩,
            ⟨some 134, .load (.tmp 133) 1 false .plain, some (132, true)⟩,
            ⟨some 135, .bin .eql (.tmp 134) (.const (.str ⟨#[]⟩)), some (132, true)⟩,
            ⟨some 136, .pick (.tmp 132) (.tmp 135) (.const (.bool false)), none⟩] [1, 136])
          (.cond (.tmp 136)
            (.seq (.quiet [
              ⟨some 137, .faddr (.tmp 1) 1, none⟩,
              ⟨some 138, .load (.tmp 137) 1 false .plain, none⟩,
              ⟨some 139, .bin .add (.const (.str ⟨#[103, 111, 116, 98, 97, 99, 107, 32]⟩)) (.tmp 138), none⟩,
              ⟨some 140, .bin .add (.tmp 139) (.const (.str ⟨#[32]⟩)), none⟩,
              ⟨some 141, .faddr (.tmp 1) 4, none⟩,
              ⟨some 142, .load (.tmp 141) 1 false .plain, none⟩,
              ⟨some 143, .bin .add (.tmp 140) (.tmp 142), none⟩,
              ⟨some 144, .bin .add (.tmp 143) (.const (.str ⟨#[32]⟩)), none⟩,
              ⟨some 145, .faddr (.tmp 1) 6, none⟩,
              ⟨some 146, .load (.tmp 145) 1 false .plain, none⟩,
              ⟨some 147, .call 140 [false] [.tmp 146], none⟩,
              ⟨some 148, .bin .add (.tmp 144) (.tmp 147), none⟩,
              ⟨some 149, .bin .add (.tmp 148) (.const (.str ⟨#[10]⟩)), none⟩,
              ⟨some 2, .mov (.tmp 149), none⟩] [2])
            .ret)
            .skip))
          (.seq (.region [
            ⟨some 151, .bin .eql (.tmp 43) (.const (.int .i64 6)), none⟩,
            ⟨some 150, .mov (.tmp 151), none⟩] [1, 150])
          (.cond (.tmp 150)
            (.seq (.region [
              ⟨some 152, .faddr (.tmp 1) 2, none⟩,
              ⟨some 153, .load (.tmp 152) 1 false .plain, none⟩,
              ⟨some 154, .call 102 [false, false, false] [.tmp 153, .const (.int .i64 0), .const (.int .i64 1000000)], none⟩,
              ⟨some 155, .mov (.tmp 154), none⟩,
              ⟨some 156, .faddr (.tmp 1) 4, some (155, true)⟩,
              ⟨some 157, .load (.tmp 156) 1 false .plain, some (155, true)⟩,
              ⟨some 158, .bin .eql (.tmp 157) (.const (.str ⟨#[]⟩)), some (155, true)⟩,
              ⟨some 159, .pick (.tmp 155) (.tmp 158) (.const (.bool false)), none⟩,
              ⟨some 160, .mov (.tmp 159), none⟩,
              ⟨some 161, .faddr (.tmp 1) 5, some (160, true)⟩,
              ⟨some 162, .load (.tmp 161) 1 false .plain, some (160, true)⟩,
              ⟨some 163, .bin .eql (.tmp 162) (.const (.str ⟨#[]⟩)), some (160, true)⟩,
              ⟨some 164, .pick (.tmp 160) (.tmp 163) (.const (.bool false)), none⟩,
              ⟨some 165, .mov (.tmp 164), none⟩,
              ⟨some 166, .faddr (.tmp 1) 6, some (165, true)⟩,
              ⟨some 167, .load (.tmp 166) 1 false .plain, some (165, true)⟩,
              ⟨some 168, .bin .eql (.tmp 167) (.const (.int .i64 0)), some (165, true)⟩,
              ⟨some 169, .pick (.tmp 165) (.tmp 168) (.const (.bool false)), none⟩] [1, 169])
            (.cond (.tmp 169)
              (.seq (.quiet [
                ⟨some 170, .faddr (.tmp 1) 1, none⟩,
                ⟨some 171, .load (.tmp 170) 1 false .plain, none⟩,
                ⟨some 172, .bin .add (.const (.str ⟨#[104, 101, 114, 101, 32]⟩)) (.tmp 171), none⟩,
                ⟨some 173, .bin .add (.tmp 172) (.const (.str ⟨#[32]⟩)), none⟩,
                ⟨some 174, .faddr (.tmp 1) 2, none⟩,
                ⟨some 175, .load (.tmp 174) 1 false .plain, none⟩,
                ⟨some 176, .call 140 [false] [.tmp 175], none⟩,
                ⟨some 177, .bin .add (.tmp 173) (.tmp 176), none⟩,
                ⟨some 178, .bin .add (.tmp 177) (.const (.str ⟨#[10]⟩)), none⟩,
                ⟨some 2, .mov (.tmp 178), none⟩] [2])
              .ret)
              .skip))
            .skip))))))))))
  (.seq (.region [
    ⟨some 2, .mov (.const (.str ⟨#[]⟩)), none⟩] [2])
  .ret))
theorem c236_cut : c236 = ⟨179, [.tmp 2],
  (.seq (.region [
    ⟨some 1, .box (.tmp 0), none⟩,
    ⟨some 2, .mov (.const (.str ⟨#[]⟩)), none⟩] [1])
  (.seq (.seq (.region [
    ⟨some 6, .faddr (.tmp 1) 1, none⟩,
    ⟨some 7, .load (.tmp 6) 1 false .plain, none⟩,
    ⟨some 8, .call 101 [false] [.tmp 7], none⟩,
    ⟨some 9, .un .not (.tmp 8), none⟩] [1, 9])
  (.cond (.tmp 9)
    (.seq (.region [
      ⟨some 2, .mov (.const (.str ⟨#[]⟩)), none⟩] [2])
    .ret)
    .skip))
  (.seq (.region [
    ⟨some 10, .faddr (.tmp 1) 4, none⟩,
    ⟨some 11, .load (.tmp 10) 1 false .plain, none⟩,
    ⟨some 12, .call 100 [false] [.tmp 11], none⟩,
    ⟨some 13, .mov (.tmp 12), none⟩,
    ⟨some 14, .faddr (.tmp 1) 6, some (13, true)⟩,
    ⟨some 15, .load (.tmp 14) 1 false .plain, some (13, true)⟩,
    ⟨some 16, .call 102 [false, false, false] [.tmp 15, .const (.int .i64 0), .const (.int .i64 1000000)], some (13, true)⟩,
    ⟨some 17, .pick (.tmp 13) (.tmp 16) (.const (.bool false)), none⟩,
    ⟨some 3, .mov (.tmp 17), none⟩] [1, 3])
  (.seq (.seq (.region [
    ⟨some 18, .faddr (.tmp 1) 0, none⟩,
    ⟨some 19, .load (.tmp 18) 1 false .plain, none⟩,
    ⟨some 20, .bin .neq (.tmp 19) (.const (.int .i64 1)), none⟩,
    ⟨some 21, .mov (.tmp 20), none⟩,
    ⟨some 22, .faddr (.tmp 1) 3, some (21, true)⟩,
    ⟨some 23, .load (.tmp 22) 1 false .plain, some (21, true)⟩,
    ⟨some 24, .len false (.tmp 23), some (21, true)⟩,
    ⟨some 25, .bin .gtr (.tmp 24) (.const (.int .i64 0)), some (21, true)⟩,
    ⟨some 26, .pick (.tmp 21) (.tmp 25) (.const (.bool false)), none⟩,
    ⟨some 27, .mov (.tmp 26), none⟩,
    ⟨some 28, .faddr (.tmp 1) 0, some (27, false)⟩,
    ⟨some 29, .load (.tmp 28) 1 false .plain, some (27, false)⟩,
    ⟨some 30, .bin .neq (.tmp 29) (.const (.int .i64 1)), some (27, false)⟩,
    ⟨some 31, .mov (.tmp 30), some (27, false)⟩,
    ⟨some 32, .faddr (.tmp 1) 0, some (31, true)⟩,
    ⟨some 33, .load (.tmp 32) 1 false .plain, some (31, true)⟩,
    ⟨some 34, .bin .neq (.tmp 33) (.const (.int .i64 6)), some (31, true)⟩,
    ⟨some 35, .pick (.tmp 31) (.tmp 34) (.const (.bool false)), some (27, false)⟩,
    ⟨some 36, .mov (.tmp 35), some (27, false)⟩,
    ⟨some 37, .faddr (.tmp 1) 2, some (36, true)⟩,
    ⟨some 38, .load (.tmp 37) 1 false .plain, some (36, true)⟩,
    ⟨some 39, .bin .neq (.tmp 38) (.const (.int .i64 0)), some (36, true)⟩,
    ⟨some 40, .pick (.tmp 36) (.tmp 39) (.const (.bool false)), some (27, false)⟩,
    ⟨some 41, .pick (.tmp 27) (.const (.bool true)) (.tmp 40), none⟩] [1, 3, 41])
  (.cond (.tmp 41)
    (.seq (.region [
      ⟨some 2, .mov (.const (.str ⟨#[]⟩)), none⟩] [2])
    .ret)
    .skip))
  sw236))))⟩ := rfl

def headF (ws : List Want) (i : Nat) (acc : T) : St := hd [(3, .fn 231), (7, .str acc), (69, .sl .bor 7 (ws.map Want.c)), (70, .int .i64 ws.length), (71, .int .i64 i)] [] 0

theorem joinWant (w : Want) (hw : w.fits) : joinT [⟨#[119, 97, 110, 116]⟩, w.copy, itoaT w.version, starOr w.hold, itoaT w.pull, itoaT w.start, itoaT w.dies, itoaT w.grace] ⟨#[32]⟩ ++ ⟨#[10]⟩ = formWant w := by
  rw [itoa_dec hw.version.1, itoa_dec hw.pull.1, itoa_dec hw.start.1, itoa_dec hw.dies.1, itoa_dec hw.grace.1]
  apply text_ext
  simp [joinT, formWant, Lib.join_cons, Lib.joinTail]

theorem joinHold (wd b h c : T) (n : Int) (h1 : wd.size ≤ 20) (h2 : b.size ≤ 20) (h3 : h.size ≤ 20) (h4 : c.size ≤ 20) (n0 : 0 ≤ n) (n1 : n ≤ 1000000) :
    joinT [wd, b, h, c, itoaT n] ⟨#[32]⟩ ++ ⟨#[10]⟩ = wd ++ ⟨#[32]⟩ ++ b ++ ⟨#[32]⟩ ++ h ++ ⟨#[32]⟩ ++ c ++ ⟨#[32]⟩ ++ dec n.toNat ++ ⟨#[10]⟩ ∧ (joinT [wd, b, h, c, itoaT n] ⟨#[32]⟩).size ≤ 200 := by
  have hd := (law140' n n0 n1).2
  have e : joinT [wd, b, h, c, itoaT n] ⟨#[32]⟩ ++ ⟨#[10]⟩ = wd ++ ⟨#[32]⟩ ++ b ++ ⟨#[32]⟩ ++ h ++ ⟨#[32]⟩ ++ c ++ ⟨#[32]⟩ ++ dec n.toNat ++ ⟨#[10]⟩ := by
    rw [itoa_dec n0]
    apply text_ext
    simp [joinT, Lib.join_cons, Lib.joinTail]
  refine ⟨e, ?_⟩
  have hs := congrArg ByteArray.size e
  simp only [app_size] at hs
  have z1 : (⟨#[32]⟩ : T).size = 1 := rfl
  have z2 : (⟨#[10]⟩ : T).size = 1 := rfl
  omega

theorem form_loop {fs : List Fr} (ws : List Want) (acc : T) (hl : ws.length ≤ 1048576) (hok : ∀ w ∈ ws, wantOk w = true) (ha : acc.size ≤ 1000) (s : St) (hs : s.norm [3, 7, 69, 70, 71] = headF ws 0 acc) (hf : ∀ (r : T) (s' : St), s'.slots 7 = .str r → s'.heap = (fun _ => none) → s'.base = 0 → fin [.tmp 2] 0 (X F fs (.exit 1, s')) = some (.str r, [])) :
    fin [.tmp 2] 0 (X F (.code (.loop [3, 7, 69, 70, 71] c218b0) :: fs) (.normal, s)) = some (.str (formWants acc ws), []) := by
  refine (loop_list ws (fun i (acc : T) => headF ws i acc) (fun i acc => acc.size ≤ 1000 + 90 * i) (fun _ r acc => (.str (formWants acc r), [])) (fun acc Y hinv => ?_) (fun i w r acc Y hw hi hr hinv hY => ?_) acc hs (by simpa using ha) ?_).trans rfl
  · simp [headF, c218b0, formWants]
    exact hf acc _ (by simp) rfl rfl
  · have hw1 : IntKind.i64.wrap ((i : Int) + 1) = (i : Int) + 1 := i64w (by omega) (by omega)
    obtain ⟨_, hg⟩ := List.getElem?_eq_some_iff.1 hw
    have hiI : (i : Int) < ws.length := by omega
    have hwk := hok w (List.mem_of_getElem? hw)
    have hfit := wantOk_fits hwk
    have hstar := wantOk_star hwk
    have hj := joinWant w hfit
    have hfs := formWant_size hfit
    have hjs : (joinT [⟨#[119, 97, 110, 116]⟩, w.copy, itoaT w.version, starOr w.hold, itoaT w.pull, itoaT w.start, itoaT w.dies, itoaT w.grace] ⟨#[32]⟩).size + (⟨#[10]⟩ : T).size ≤ 90 := by
      rw [← app_size, hj]; exact hfs
    have a1 := law231 w.version (by have := hfit.version; omega) (by have := hfit.version; omega)
    have a2 := law231 w.pull (by have := hfit.pull; omega) (by have := hfit.pull; omega)
    have a3 := law231 w.start (by have := hfit.start; omega) (by have := hfit.start; omega)
    have a4 := law231 w.dies (by have := hfit.dies; omega) (by have := hfit.dies; omega)
    have a5 := law231 w.grace (by have := hfit.grace; omega) (by have := hfit.grace; omega)
    have hjl := law230 [⟨#[119, 97, 110, 116]⟩, w.copy, itoaT w.version, starOr w.hold, itoaT w.pull, itoaT w.start, itoaT w.dies, itoaT w.grace] ⟨#[32]⟩ (by simp) (by omega)
    simp only [List.map_cons, List.map_nil] at hjl
    have e1 : (joinT [⟨#[119, 97, 110, 116]⟩, w.copy, itoaT w.version, starOr w.hold, itoaT w.pull, itoaT w.start, itoaT w.dies, itoaT w.grace] ⟨#[32]⟩).size + (⟨#[10]⟩ : T).size ≤ 9223372036854775807 := by omega
    have e2 : acc.size + (formWant w).size ≤ 9223372036854775807 := by omega
    have hY' := fun s' h => hY (acc ++ formWant w) s' (by rw [app_size]; omega) h
    simp only [formWants]
    have hst : starOr w.hold = if sEq w.hold ⟨#[]⟩ then ⟨#[42]⟩ else w.hold := rfl
    cases q : sEq w.hold ⟨#[]⟩
    · rw [q] at hst
      simp only [Bool.false_eq_true, if_false] at hst
      rw [hst] at hj hjl e1
      simp [headF, c218b0, hiI, hi, hg, hstar, q, a1, a2, a3, a4, a5, hjl, e1, hj, e2]
      exact hY' _ (by simp [headF, hw1])
    · rw [q] at hst
      simp only [if_true] at hst
      rw [hst] at hj hjl e1
      simp [headF, c218b0, hiI, hi, hg, hstar, q, a1, a2, a3, a4, a5, hjl, e1, hj, e2]
      exact hY' _ (by simp [headF, hw1])
  · unfold big; omega

theorem form218 (p : Parcel) (h nh : Bool) (hs : p.small) (hb : isName p.berth = true) (hh : h = true → isName p.hold = true) (s : St) (n : Nat) (s1 : s.slots 1 = .ptr 0 0 0) (s3 : s.slots 3 = .fn 231) (s4 : s.slots 4 = .bool h) (s5 : s.slots 5 = .bool p.wants.isEmpty) (s6 : s.slots 6 = .bool nh)
    (h0 : s.heap 0 = some (.box (p.c .bor))) (hn : s.next = n + 1) (hba : s.base = 0) : fin [.tmp 2] 0 (X F [.code sw218] (.normal, s)) = some (.str (formSw p h nh), []) := by
  have hbs := isName_size hb
  by_cases k1 : p.kind = 1
  · cases q1 : inR p.seen 1 1000000
    · simp [sw218, formSw, s1, s3, s4, s5, s6, h0, hn, hba, k1, q1]
    have w2 := law6 p.wants (by have := hs.wants; unfold big; omega)
    cases q2 : wantsOk p.wants
    · simp [sw218, formSw, s1, s3, s4, s5, s6, h0, hn, hba, k1, q1, q2, w2]
    cases nh
    · simp [sw218, formSw, s1, s3, s4, s5, s6, h0, hn, hba, k1, q1, q2, w2]
    obtain ⟨r1, r2⟩ := inR_le q1
    have a1 := law231 p.seen (by omega) (by omega)
    rw [itoa_dec (by omega)] at a1
    have b1 := (law140' p.seen (by omega) (by omega)).2
    have z1 : (⟨#[116, 111, 108, 100, 32]⟩ : T).size = 5 := rfl
    have z2 : (⟨#[32]⟩ : T).size = 1 := rfl
    have z3 : (⟨#[10]⟩ : T).size = 1 := rfl
    have y2 : (⟨#[116, 111, 108, 100, 32]⟩ : T).size + (p.berth).size ≤ 9223372036854775807 := by omega
    have y3 : (⟨#[116, 111, 108, 100, 32]⟩ : T).size + (p.berth).size + (⟨#[32]⟩ : T).size ≤ 9223372036854775807 := by omega
    have y4 : (⟨#[116, 111, 108, 100, 32]⟩ : T).size + (p.berth).size + (⟨#[32]⟩ : T).size + (dec p.seen.toNat).size ≤ 9223372036854775807 := by omega
    have y5 : (⟨#[116, 111, 108, 100, 32]⟩ : T).size + (p.berth).size + (⟨#[32]⟩ : T).size + (dec p.seen.toNat).size + (⟨#[10]⟩ : T).size ≤ 9223372036854775807 := by omega
    simp [sw218, formSw, s1, s3, s4, s5, s6, h0, hn, hba, k1, q1, q2, w2, a1, y2, y3, y4, y5]
    refine form_loop p.wants (toldHead p) hs.wants (fun w hw => ((wantsOk_iff _).1 q2).2.1 w hw) ?_ _ ?_ (fun r s' h7 hh hb => ?_)
    · unfold toldHead
      simp only [app_size]
      omega
    · simp [headF, toldHead]
    · simp [h7, hh, hb]
  by_cases k2 : p.kind = 2
  · cases h
    · simp [sw218, formSw, s1, s3, s4, s5, s6, h0, hn, hba, k1, k2]
    have hhs := isName_size (hh rfl)
    cases q1 : isName p.copy
    · simp [sw218, formSw, s1, s3, s4, s5, s6, h0, hn, hba, k1, k2, q1]
    have hcs := isName_size q1
    cases q2 : inR p.at_ 0 1000000
    · simp [sw218, formSw, s1, s3, s4, s5, s6, h0, hn, hba, k1, k2, q1, q2]
    by_cases q3 : p.seen = 0
    case neg => simp [sw218, formSw, s1, s3, s4, s5, s6, h0, hn, hba, k1, k2, q1, q2, q3]
    cases q4 : p.wants.isEmpty
    · simp [sw218, formSw, s1, s3, s4, s5, s6, h0, hn, hba, k1, k2, q1, q2, q3, q4]
    obtain ⟨r1, r2⟩ := inR_le q2
    have a1 := law231 p.at_ (by omega) (by omega)
    have b1 := (law140' p.at_ (by omega) (by omega)).2
    obtain ⟨hj, hz⟩ := joinHold (⟨#[97, 115, 107, 101, 100]⟩) p.berth p.hold p.copy p.at_ (by decide) hbs hhs hcs r1 r2
    have hjl := law230 [⟨#[97, 115, 107, 101, 100]⟩, p.berth, p.hold, p.copy, itoaT p.at_] ⟨#[32]⟩ (by simp) (by omega)
    simp only [List.map_cons, List.map_nil] at hjl
    have e1 : (joinT [⟨#[97, 115, 107, 101, 100]⟩, p.berth, p.hold, p.copy, itoaT p.at_] ⟨#[32]⟩).size + (⟨#[10]⟩ : T).size ≤ 9223372036854775807 := by
      have : (⟨#[10]⟩ : T).size = 1 := rfl
      omega
    have u0 : IntKind.i64.wrap 0 = 0 := by decide
    have u1 : IntKind.i64.wrap 1 = 1 := by decide
    have u2 : IntKind.i64.wrap 2 = 2 := by decide
    simp [sw218, formSw, s1, s3, s4, s5, s6, h0, hn, hba, k1, k2, q1, q2, q3, q4, a1, hjl, e1, hj, word, u0, u1, u2]
    exact text_ext (by simp)
  by_cases k3 : p.kind = 3
  · cases h
    · simp [sw218, formSw, s1, s3, s4, s5, s6, h0, hn, hba, k1, k2, k3]
    have hhs := isName_size (hh rfl)
    cases q1 : isName p.copy
    · simp [sw218, formSw, s1, s3, s4, s5, s6, h0, hn, hba, k1, k2, k3, q1]
    have hcs := isName_size q1
    cases q2 : inR p.at_ 0 1000000
    · simp [sw218, formSw, s1, s3, s4, s5, s6, h0, hn, hba, k1, k2, k3, q1, q2]
    by_cases q3 : p.seen = 0
    case neg => simp [sw218, formSw, s1, s3, s4, s5, s6, h0, hn, hba, k1, k2, k3, q1, q2, q3]
    cases q4 : p.wants.isEmpty
    · simp [sw218, formSw, s1, s3, s4, s5, s6, h0, hn, hba, k1, k2, k3, q1, q2, q3, q4]
    obtain ⟨r1, r2⟩ := inR_le q2
    have a1 := law231 p.at_ (by omega) (by omega)
    have b1 := (law140' p.at_ (by omega) (by omega)).2
    obtain ⟨hj, hz⟩ := joinHold (⟨#[103, 105, 118, 101, 110]⟩) p.berth p.hold p.copy p.at_ (by decide) hbs hhs hcs r1 r2
    have hjl := law230 [⟨#[103, 105, 118, 101, 110]⟩, p.berth, p.hold, p.copy, itoaT p.at_] ⟨#[32]⟩ (by simp) (by omega)
    simp only [List.map_cons, List.map_nil] at hjl
    have e1 : (joinT [⟨#[103, 105, 118, 101, 110]⟩, p.berth, p.hold, p.copy, itoaT p.at_] ⟨#[32]⟩).size + (⟨#[10]⟩ : T).size ≤ 9223372036854775807 := by
      have : (⟨#[10]⟩ : T).size = 1 := rfl
      omega
    have u0 : IntKind.i64.wrap 0 = 0 := by decide
    have u1 : IntKind.i64.wrap 1 = 1 := by decide
    have u2 : IntKind.i64.wrap 2 = 2 := by decide
    simp [sw218, formSw, s1, s3, s4, s5, s6, h0, hn, hba, k1, k2, k3, q1, q2, q3, q4, a1, hjl, e1, hj, word, u0, u1, u2]
    exact text_ext (by simp)
  by_cases k4 : p.kind = 4
  · cases h
    · simp [sw218, formSw, s1, s3, s4, s5, s6, h0, hn, hba, k1, k2, k3, k4]
    have hhs := isName_size (hh rfl)
    cases q1 : isName p.copy
    · simp [sw218, formSw, s1, s3, s4, s5, s6, h0, hn, hba, k1, k2, k3, k4, q1]
    have hcs := isName_size q1
    cases q2 : inR p.at_ 0 1000000
    · simp [sw218, formSw, s1, s3, s4, s5, s6, h0, hn, hba, k1, k2, k3, k4, q1, q2]
    by_cases q3 : p.seen = 0
    case neg => simp [sw218, formSw, s1, s3, s4, s5, s6, h0, hn, hba, k1, k2, k3, k4, q1, q2, q3]
    cases q4 : p.wants.isEmpty
    · simp [sw218, formSw, s1, s3, s4, s5, s6, h0, hn, hba, k1, k2, k3, k4, q1, q2, q3, q4]
    obtain ⟨r1, r2⟩ := inR_le q2
    have a1 := law231 p.at_ (by omega) (by omega)
    have b1 := (law140' p.at_ (by omega) (by omega)).2
    obtain ⟨hj, hz⟩ := joinHold (⟨#[98, 97, 99, 107]⟩) p.berth p.hold p.copy p.at_ (by decide) hbs hhs hcs r1 r2
    have hjl := law230 [⟨#[98, 97, 99, 107]⟩, p.berth, p.hold, p.copy, itoaT p.at_] ⟨#[32]⟩ (by simp) (by omega)
    simp only [List.map_cons, List.map_nil] at hjl
    have e1 : (joinT [⟨#[98, 97, 99, 107]⟩, p.berth, p.hold, p.copy, itoaT p.at_] ⟨#[32]⟩).size + (⟨#[10]⟩ : T).size ≤ 9223372036854775807 := by
      have : (⟨#[10]⟩ : T).size = 1 := rfl
      omega
    have u0 : IntKind.i64.wrap 0 = 0 := by decide
    have u1 : IntKind.i64.wrap 1 = 1 := by decide
    have u2 : IntKind.i64.wrap 2 = 2 := by decide
    simp [sw218, formSw, s1, s3, s4, s5, s6, h0, hn, hba, k1, k2, k3, k4, q1, q2, q3, q4, a1, hjl, e1, hj, word, u0, u1, u2]
    exact text_ext (by simp)
  by_cases k5 : p.kind = 5
  · cases h
    · simp [sw218, formSw, s1, s3, s4, s5, s6, h0, hn, hba, k1, k2, k3, k4, k5]
    have hhs := isName_size (hh rfl)
    cases q1 : sEq p.copy ⟨#[]⟩
    · simp [sw218, formSw, s1, s3, s4, s5, s6, h0, hn, hba, k1, k2, k3, k4, k5, q1]
    cases q2 : inR p.at_ 0 1000000
    · simp [sw218, formSw, s1, s3, s4, s5, s6, h0, hn, hba, k1, k2, k3, k4, k5, q1, q2]
    by_cases q3 : p.seen = 0
    case neg => simp [sw218, formSw, s1, s3, s4, s5, s6, h0, hn, hba, k1, k2, k3, k4, k5, q1, q2, q3]
    cases q4 : p.wants.isEmpty
    · simp [sw218, formSw, s1, s3, s4, s5, s6, h0, hn, hba, k1, k2, k3, k4, k5, q1, q2, q3, q4]
    obtain ⟨r1, r2⟩ := inR_le q2
    have a1 := law231 p.at_ (by omega) (by omega)
    rw [itoa_dec r1] at a1
    have b1 := (law140' p.at_ (by omega) (by omega)).2
    have z1 : (⟨#[103, 111, 116, 98, 97, 99, 107, 32]⟩ : T).size = 8 := rfl
    have z2 : (⟨#[32]⟩ : T).size = 1 := rfl
    have z3 : (⟨#[10]⟩ : T).size = 1 := rfl
    have y2 : (⟨#[103, 111, 116, 98, 97, 99, 107, 32]⟩ : T).size + (p.berth).size ≤ 9223372036854775807 := by omega
    have y3 : (⟨#[103, 111, 116, 98, 97, 99, 107, 32]⟩ : T).size + (p.berth).size + (⟨#[32]⟩ : T).size ≤ 9223372036854775807 := by omega
    have y4 : (⟨#[103, 111, 116, 98, 97, 99, 107, 32]⟩ : T).size + (p.berth).size + (⟨#[32]⟩ : T).size + (p.hold).size ≤ 9223372036854775807 := by omega
    have y5 : (⟨#[103, 111, 116, 98, 97, 99, 107, 32]⟩ : T).size + (p.berth).size + (⟨#[32]⟩ : T).size + (p.hold).size + (⟨#[32]⟩ : T).size ≤ 9223372036854775807 := by omega
    have y6 : (⟨#[103, 111, 116, 98, 97, 99, 107, 32]⟩ : T).size + (p.berth).size + (⟨#[32]⟩ : T).size + (p.hold).size + (⟨#[32]⟩ : T).size + (dec p.at_.toNat).size ≤ 9223372036854775807 := by omega
    have y7 : (⟨#[103, 111, 116, 98, 97, 99, 107, 32]⟩ : T).size + (p.berth).size + (⟨#[32]⟩ : T).size + (p.hold).size + (⟨#[32]⟩ : T).size + (dec p.at_.toNat).size + (⟨#[10]⟩ : T).size ≤ 9223372036854775807 := by omega
    simp [sw218, formSw, s1, s3, s4, s5, s6, h0, hn, hba, k1, k2, k3, k4, k5, q1, q2, q3, q4, a1, y2, y3, y4, y5, y6, y7]
  by_cases k6 : p.kind = 6
  · cases q1 : inR p.seen 0 1000000
    · simp [sw218, formSw, s1, s3, s4, s5, s6, h0, hn, hba, k1, k2, k3, k4, k5, k6, q1]
    cases q4 : p.wants.isEmpty
    · simp [sw218, formSw, s1, s3, s4, s5, s6, h0, hn, hba, k1, k2, k3, k4, k5, k6, q1, q4]
    cases nh
    · simp [sw218, formSw, s1, s3, s4, s5, s6, h0, hn, hba, k1, k2, k3, k4, k5, k6, q1, q4]
    obtain ⟨r1, r2⟩ := inR_le q1
    have a1 := law231 p.seen (by omega) (by omega)
    rw [itoa_dec r1] at a1
    have b1 := (law140' p.seen (by omega) (by omega)).2
    have z1 : (⟨#[104, 101, 114, 101, 32]⟩ : T).size = 5 := rfl
    have z2 : (⟨#[32]⟩ : T).size = 1 := rfl
    have z3 : (⟨#[10]⟩ : T).size = 1 := rfl
    have y2 : (⟨#[104, 101, 114, 101, 32]⟩ : T).size + (p.berth).size ≤ 9223372036854775807 := by omega
    have y3 : (⟨#[104, 101, 114, 101, 32]⟩ : T).size + (p.berth).size + (⟨#[32]⟩ : T).size ≤ 9223372036854775807 := by omega
    have y4 : (⟨#[104, 101, 114, 101, 32]⟩ : T).size + (p.berth).size + (⟨#[32]⟩ : T).size + (dec p.seen.toNat).size ≤ 9223372036854775807 := by omega
    have y5 : (⟨#[104, 101, 114, 101, 32]⟩ : T).size + (p.berth).size + (⟨#[32]⟩ : T).size + (dec p.seen.toNat).size + (⟨#[10]⟩ : T).size ≤ 9223372036854775807 := by omega
    simp [sw218, formSw, s1, s3, s4, s5, s6, h0, hn, hba, k1, k2, k3, k4, k5, k6, q1, q4, a1, y2, y3, y4, y5]
  · simp [sw218, formSw, s1, s3, s4, s5, s6, h0, hn, hba, k1, k2, k3, k4, k5, k6]

theorem law218 (p : Parcel) (hs : p.small) : F 218 [.agg (p.c .bor)] [] = some (.str (parcelForm p), []) := by
  refine F_run fn218 rfl ?_
  unfold parcelForm
  rw [c218_cut]
  have hz : ((p.wants.length : Int) == 0) = p.wants.isEmpty := by
    cases p.wants with
    | nil => rfl
    | cons x xs =>
      have : ¬ (((x :: xs).length : Int) = 0) := by simp; omega
      simpa using this
  cases qb : isName p.berth
  · cases qh : isName p.hold
    · simp [qb, qh]
    · simp [qb, qh]
  have key : ∀ (h nh : Bool) (s : St) (n : Nat), h = isHold p.hold → nh = noHold p → s.slots 1 = .ptr 0 0 0 → s.slots 3 = .fn 231 → s.slots 4 = .bool h → s.slots 5 = .bool p.wants.isEmpty → s.slots 6 = .bool nh → s.heap 0 = some (.box (p.c .bor)) → s.next = n + 1 → s.base = 0 →
      fin [.tmp 2] 0 (X F [.code sw218] (.normal, s)) = some (.str (formSw p (isHold p.hold) (noHold p)), []) := fun h nh s n e1 e2 s1 s3 s4 s5 s6 h0 hn hba => by
    subst e1; subst e2
    exact form218 p _ _ hs qb (fun e => by simp only [isHold, Bool.and_eq_true] at e; exact e.1) s n s1 s3 s4 s5 s6 h0 hn hba
  cases qh : isName p.hold
  · have eh : isHold p.hold = false := by simp [isHold, qh]
    cases e1 : sEq p.hold ⟨#[]⟩
    · have en : noHold p = false := by simp [noHold, e1]
      simp [qb, qh, e1, hz]
      exact key false false _ _ eh.symm en.symm (by simp) (by simp) (by simp) (by simp) (by simp) (by simp) rfl rfl
    cases e2 : sEq p.copy ⟨#[]⟩
    · have en : noHold p = false := by simp [noHold, e1, e2]
      simp [qb, qh, e1, e2, hz]
      exact key false false _ _ eh.symm en.symm (by simp) (by simp) (by simp) (by simp) (by simp) (by simp) rfl rfl
    by_cases e3 : p.at_ = 0
    · have en : noHold p = true := by simp [noHold, e1, e2, e3]
      simp [qb, qh, e1, e2, e3, hz]
      exact key false true _ _ eh.symm en.symm (by simp) (by simp) (by simp) (by simp) (by simp) (by simp [e3]) rfl rfl
    · have en : noHold p = false := by simp [noHold, e1, e2, e3]
      simp [qb, qh, e1, e2, e3, hz]
      exact key false false _ _ eh.symm en.symm (by simp) (by simp) (by simp) (by simp) (by simp [e3]) (by simp) rfl rfl
  cases qs : sEq p.hold ⟨#[42]⟩
  · have eh : isHold p.hold = true := by simp [isHold, qh, qs]
    cases e1 : sEq p.hold ⟨#[]⟩
    · have en : noHold p = false := by simp [noHold, e1]
      simp [qb, qh, qs, e1, hz]
      exact key true false _ _ eh.symm en.symm (by simp) (by simp) (by simp) (by simp) (by simp) (by simp) rfl rfl
    cases e2 : sEq p.copy ⟨#[]⟩
    · have en : noHold p = false := by simp [noHold, e1, e2]
      simp [qb, qh, qs, e1, e2, hz]
      exact key true false _ _ eh.symm en.symm (by simp) (by simp) (by simp) (by simp) (by simp) (by simp) rfl rfl
    by_cases e3 : p.at_ = 0
    · have en : noHold p = true := by simp [noHold, e1, e2, e3]
      simp [qb, qh, qs, e1, e2, e3, hz]
      exact key true true _ _ eh.symm en.symm (by simp) (by simp) (by simp) (by simp) (by simp) (by simp [e3]) rfl rfl
    · have en : noHold p = false := by simp [noHold, e1, e2, e3]
      simp [qb, qh, qs, e1, e2, e3, hz]
      exact key true false _ _ eh.symm en.symm (by simp) (by simp) (by simp) (by simp) (by simp [e3]) (by simp) rfl rfl
  · have eh : isHold p.hold = false := by simp [isHold, qh, qs]
    cases e1 : sEq p.hold ⟨#[]⟩
    · have en : noHold p = false := by simp [noHold, e1]
      simp [qb, qh, qs, e1, hz]
      exact key false false _ _ eh.symm en.symm (by simp) (by simp) (by simp) (by simp) (by simp) (by simp) rfl rfl
    cases e2 : sEq p.copy ⟨#[]⟩
    · have en : noHold p = false := by simp [noHold, e1, e2]
      simp [qb, qh, qs, e1, e2, hz]
      exact key false false _ _ eh.symm en.symm (by simp) (by simp) (by simp) (by simp) (by simp) (by simp) rfl rfl
    by_cases e3 : p.at_ = 0
    · have en : noHold p = true := by simp [noHold, e1, e2, e3]
      simp [qb, qh, qs, e1, e2, e3, hz]
      exact key false true _ _ eh.symm en.symm (by simp) (by simp) (by simp) (by simp) (by simp) (by simp [e3]) rfl rfl
    · have en : noHold p = false := by simp [noHold, e1, e2, e3]
      simp [qb, qh, qs, e1, e2, e3, hz]
      exact key false false _ _ eh.symm en.symm (by simp) (by simp) (by simp) (by simp) (by simp [e3]) (by simp) rfl rfl

def headG (p : Parcel) (i : Nat) (acc : T) : St := hd [(1, .ptr 0 0 0), (4, .str acc), (5, .int .i64 i)] [.box (p.c .bor)] 0

theorem form_loop2 {fs : List Fr} (p : Parcel) (acc : T) (hl : p.wants.length ≤ 1048576) (hok : ∀ w ∈ p.wants, wantOk w = true) (ha : acc.size ≤ 1000) (s : St) (hs : s.norm [1, 4, 5] = headG p 0 acc) (hf : ∀ (r : T) (s' : St), s'.slots 4 = .str r → s'.base = 0 → fin [.tmp 2] 0 (X F fs (.exit 1, s')) = some (.str r, [])) :
    fin [.tmp 2] 0 (X F (.code (.loop [1, 4, 5] c236b0) :: fs) (.normal, s)) = some (.str (formWants acc p.wants), []) := by
  refine (loop_list p.wants (fun i (acc : T) => headG p i acc) (fun i acc => acc.size ≤ 1000 + 90 * i) (fun _ r acc => (.str (formWants acc r), [])) (fun acc Y hinv => ?_) (fun i w r acc Y hw hi hr hinv hY => ?_) acc hs (by simpa using ha) ?_).trans rfl
  · simp [headG, c236b0, formWants]
    exact hf acc _ (by simp) rfl
  · have hw1 : IntKind.i64.wrap ((i : Int) + 1) = (i : Int) + 1 := i64w (by omega) (by omega)
    obtain ⟨_, hg⟩ := List.getElem?_eq_some_iff.1 hw
    have hiI : (i : Int) < p.wants.length := by omega
    have hfit := wantOk_fits (hok w (List.mem_of_getElem? hw))
    have hfs := formWant_size hfit
    have a1 := law240 w hfit
    simp only [Want.c] at a1
    have e2 : acc.size + (formWant w).size ≤ 9223372036854775807 := by omega
    have hY' := fun s' h => hY (acc ++ formWant w) s' (by rw [app_size]; omega) h
    simp only [formWants]
    simp [headG, c236b0, hiI, hi, hg, a1, e2]
    exact hY' _ (by simp [headG, hw1])
  · unfold big; omega

theorem law236 (p : Parcel) (hs : p.small) : F 236 [.agg (p.c .bor)] [] = some (.str (parcelForm p), []) := by
  refine F_run fn236 rfl ?_
  unfold parcelForm
  have hz : p.wants ≠ [] → (0 : Int) < p.wants.length := fun h => by
    have := List.length_pos_iff.2 h
    omega
  cases qb : isName p.berth
  · simp [c236, qb]
  have hbs := isName_size qb
  have tail : ∀ (h : Bool), h = (isHold p.hold && inR p.at_ 0 1000000) → ∀ (s : St) (n : Nat), s.slots 1 = .ptr 0 0 0 → s.slots 3 = .bool h → s.heap 0 = some (.box (p.c .bor)) → s.next = n + 1 → s.base = 0 → (p.kind ≠ 1 → p.wants.isEmpty = true) → (p.kind ≠ 1 → p.kind ≠ 6 → p.seen = 0) →
      fin [.tmp 2] 0 (X F [.code sw236] (.normal, s)) = some (.str (formSw p (isHold p.hold) (noHold p)), []) := by
    intro h eh s n s1 s3 h0 hn hba g1 g2
    by_cases k1 : p.kind = 1
    · have w2 := law7 p.wants (by have := hs.wants; unfold big; omega)
      cases q2 : wantsOk p.wants
      · simp [sw236, formSw, s1, s3, h0, hn, hba, k1, q2, w2]
      cases q1 : inR p.seen 1 1000000
      · simp [sw236, formSw, s1, s3, h0, hn, hba, k1, q1, q2, w2]
      cases e1 : sEq p.hold ⟨#[]⟩
      · have en : noHold p = false := by simp [noHold, e1]
        simp [sw236, formSw, s1, s3, h0, hn, hba, k1, q1, q2, w2, e1, en]
      cases e2 : sEq p.copy ⟨#[]⟩
      · have en : noHold p = false := by simp [noHold, e1, e2]
        simp [sw236, formSw, s1, s3, h0, hn, hba, k1, q1, q2, w2, e1, e2, en]
      by_cases e3 : p.at_ = 0
      case neg =>
        have en : noHold p = false := by simp [noHold, e1, e2, e3]
        simp [sw236, formSw, s1, s3, h0, hn, hba, k1, q1, q2, w2, e1, e2, e3, en]
      have en : noHold p = true := by simp [noHold, e1, e2, e3]
      obtain ⟨r1, r2⟩ := inR_le q1
      obtain ⟨a1, b1⟩ := law140' p.seen (by omega) (by omega)
      have z1 : (⟨#[116, 111, 108, 100, 32]⟩ : T).size = 5 := rfl
      have z2 : (⟨#[32]⟩ : T).size = 1 := rfl
      have z3 : (⟨#[10]⟩ : T).size = 1 := rfl
      have y2 : (⟨#[116, 111, 108, 100, 32]⟩ : T).size + (p.berth).size ≤ 9223372036854775807 := by omega
      have y3 : (⟨#[116, 111, 108, 100, 32]⟩ : T).size + (p.berth).size + (⟨#[32]⟩ : T).size ≤ 9223372036854775807 := by omega
      have y4 : (⟨#[116, 111, 108, 100, 32]⟩ : T).size + (p.berth).size + (⟨#[32]⟩ : T).size + (dec p.seen.toNat).size ≤ 9223372036854775807 := by omega
      have y5 : (⟨#[116, 111, 108, 100, 32]⟩ : T).size + (p.berth).size + (⟨#[32]⟩ : T).size + (dec p.seen.toNat).size + (⟨#[10]⟩ : T).size ≤ 9223372036854775807 := by omega
      simp [sw236, formSw, s1, s3, h0, hn, hba, k1, q1, q2, w2, e1, e2, e3, en, a1, y2, y3, y4, y5]
      refine form_loop2 p (toldHead p) hs.wants (fun w hw => ((wantsOk_iff _).1 q2).2.1 w hw) ?_ _ ?_ (fun r s' h7 hb => ?_)
      · unfold toldHead
        simp only [app_size]
        omega
      · simp [headG, toldHead, h0]
      · simp [h7, hb]
    have g1 := g1 k1
    by_cases k2 : p.kind = 2
    · have g2 := g2 k1 (by omega)
      cases q0 : h
      · have e0 : (isHold p.hold && inR p.at_ 0 1000000) = false := by rw [← eh, q0]
        simp [sw236, formSw, s1, s3, h0, hn, hba, k1, k2, q0]
        intro u1 u2 u3
        rw [u1, u3] at e0
        cases e0
      rw [q0] at eh
      obtain ⟨q1, q2⟩ := Bool.and_eq_true_iff.1 eh.symm
      have hhs := isName_size (by simp only [isHold, Bool.and_eq_true] at q1; exact q1.1)
      cases q3 : isName p.copy
      · simp [sw236, formSw, s1, s3, h0, hn, hba, k1, k2, q0, q1, q2, q3]
      have hcs := isName_size q3
      obtain ⟨r1, r2⟩ := inR_le q2
      obtain ⟨a1, b1⟩ := law140' p.at_ (by omega) (by omega)
      have u0 : IntKind.i64.wrap 0 = 0 := by decide
      have u1 : IntKind.i64.wrap 1 = 1 := by decide
      have u2 : IntKind.i64.wrap 2 = 2 := by decide
      have z1 : (⟨#[97, 115, 107, 101, 100, 32]⟩ : T).size = 6 := rfl
      have z2 : (⟨#[32]⟩ : T).size = 1 := rfl
      have z3 : (⟨#[10]⟩ : T).size = 1 := rfl
      have y2 : (⟨#[97, 115, 107, 101, 100, 32]⟩ : T).size + (p.berth).size ≤ 9223372036854775807 := by omega
      have y3 : (⟨#[97, 115, 107, 101, 100, 32]⟩ : T).size + (p.berth).size + (⟨#[32]⟩ : T).size ≤ 9223372036854775807 := by omega
      have y4 : (⟨#[97, 115, 107, 101, 100, 32]⟩ : T).size + (p.berth).size + (⟨#[32]⟩ : T).size + (p.hold).size ≤ 9223372036854775807 := by omega
      have y5 : (⟨#[97, 115, 107, 101, 100, 32]⟩ : T).size + (p.berth).size + (⟨#[32]⟩ : T).size + (p.hold).size + (⟨#[32]⟩ : T).size ≤ 9223372036854775807 := by omega
      have y6 : (⟨#[97, 115, 107, 101, 100, 32]⟩ : T).size + (p.berth).size + (⟨#[32]⟩ : T).size + (p.hold).size + (⟨#[32]⟩ : T).size + (p.copy).size ≤ 9223372036854775807 := by omega
      have y7 : (⟨#[97, 115, 107, 101, 100, 32]⟩ : T).size + (p.berth).size + (⟨#[32]⟩ : T).size + (p.hold).size + (⟨#[32]⟩ : T).size + (p.copy).size + (⟨#[32]⟩ : T).size ≤ 9223372036854775807 := by omega
      have y8 : (⟨#[97, 115, 107, 101, 100, 32]⟩ : T).size + (p.berth).size + (⟨#[32]⟩ : T).size + (p.hold).size + (⟨#[32]⟩ : T).size + (p.copy).size + (⟨#[32]⟩ : T).size + (dec p.at_.toNat).size ≤ 9223372036854775807 := by omega
      have y9 : (⟨#[97, 115, 107, 101, 100, 32]⟩ : T).size + (p.berth).size + (⟨#[32]⟩ : T).size + (p.hold).size + (⟨#[32]⟩ : T).size + (p.copy).size + (⟨#[32]⟩ : T).size + (dec p.at_.toNat).size + (⟨#[10]⟩ : T).size ≤ 9223372036854775807 := by omega
      simp [sw236, formSw, s1, s3, h0, hn, hba, k1, k2, q0, q1, q2, q3, g1, g2, a1, word, u0, u1, u2, y2, y3, y4, y5, y6, y7, y8, y9]
    by_cases k3 : p.kind = 3
    · have g2 := g2 k1 (by omega)
      cases q0 : h
      · have e0 : (isHold p.hold && inR p.at_ 0 1000000) = false := by rw [← eh, q0]
        simp [sw236, formSw, s1, s3, h0, hn, hba, k1, k2, k3, q0]
        intro u1 u2 u3
        rw [u1, u3] at e0
        cases e0
      rw [q0] at eh
      obtain ⟨q1, q2⟩ := Bool.and_eq_true_iff.1 eh.symm
      have hhs := isName_size (by simp only [isHold, Bool.and_eq_true] at q1; exact q1.1)
      cases q3 : isName p.copy
      · simp [sw236, formSw, s1, s3, h0, hn, hba, k1, k2, k3, q0, q1, q2, q3]
      have hcs := isName_size q3
      obtain ⟨r1, r2⟩ := inR_le q2
      obtain ⟨a1, b1⟩ := law140' p.at_ (by omega) (by omega)
      have u0 : IntKind.i64.wrap 0 = 0 := by decide
      have u1 : IntKind.i64.wrap 1 = 1 := by decide
      have u2 : IntKind.i64.wrap 2 = 2 := by decide
      have z1 : (⟨#[103, 105, 118, 101, 110, 32]⟩ : T).size = 6 := rfl
      have z2 : (⟨#[32]⟩ : T).size = 1 := rfl
      have z3 : (⟨#[10]⟩ : T).size = 1 := rfl
      have y2 : (⟨#[103, 105, 118, 101, 110, 32]⟩ : T).size + (p.berth).size ≤ 9223372036854775807 := by omega
      have y3 : (⟨#[103, 105, 118, 101, 110, 32]⟩ : T).size + (p.berth).size + (⟨#[32]⟩ : T).size ≤ 9223372036854775807 := by omega
      have y4 : (⟨#[103, 105, 118, 101, 110, 32]⟩ : T).size + (p.berth).size + (⟨#[32]⟩ : T).size + (p.hold).size ≤ 9223372036854775807 := by omega
      have y5 : (⟨#[103, 105, 118, 101, 110, 32]⟩ : T).size + (p.berth).size + (⟨#[32]⟩ : T).size + (p.hold).size + (⟨#[32]⟩ : T).size ≤ 9223372036854775807 := by omega
      have y6 : (⟨#[103, 105, 118, 101, 110, 32]⟩ : T).size + (p.berth).size + (⟨#[32]⟩ : T).size + (p.hold).size + (⟨#[32]⟩ : T).size + (p.copy).size ≤ 9223372036854775807 := by omega
      have y7 : (⟨#[103, 105, 118, 101, 110, 32]⟩ : T).size + (p.berth).size + (⟨#[32]⟩ : T).size + (p.hold).size + (⟨#[32]⟩ : T).size + (p.copy).size + (⟨#[32]⟩ : T).size ≤ 9223372036854775807 := by omega
      have y8 : (⟨#[103, 105, 118, 101, 110, 32]⟩ : T).size + (p.berth).size + (⟨#[32]⟩ : T).size + (p.hold).size + (⟨#[32]⟩ : T).size + (p.copy).size + (⟨#[32]⟩ : T).size + (dec p.at_.toNat).size ≤ 9223372036854775807 := by omega
      have y9 : (⟨#[103, 105, 118, 101, 110, 32]⟩ : T).size + (p.berth).size + (⟨#[32]⟩ : T).size + (p.hold).size + (⟨#[32]⟩ : T).size + (p.copy).size + (⟨#[32]⟩ : T).size + (dec p.at_.toNat).size + (⟨#[10]⟩ : T).size ≤ 9223372036854775807 := by omega
      simp [sw236, formSw, s1, s3, h0, hn, hba, k1, k2, k3, q0, q1, q2, q3, g1, g2, a1, word, u0, u1, u2, y2, y3, y4, y5, y6, y7, y8, y9]
    by_cases k4 : p.kind = 4
    · have g2 := g2 k1 (by omega)
      cases q0 : h
      · have e0 : (isHold p.hold && inR p.at_ 0 1000000) = false := by rw [← eh, q0]
        simp [sw236, formSw, s1, s3, h0, hn, hba, k1, k2, k3, k4, q0]
        intro u1 u2 u3
        rw [u1, u3] at e0
        cases e0
      rw [q0] at eh
      obtain ⟨q1, q2⟩ := Bool.and_eq_true_iff.1 eh.symm
      have hhs := isName_size (by simp only [isHold, Bool.and_eq_true] at q1; exact q1.1)
      cases q3 : isName p.copy
      · simp [sw236, formSw, s1, s3, h0, hn, hba, k1, k2, k3, k4, q0, q1, q2, q3]
      have hcs := isName_size q3
      obtain ⟨r1, r2⟩ := inR_le q2
      obtain ⟨a1, b1⟩ := law140' p.at_ (by omega) (by omega)
      have u0 : IntKind.i64.wrap 0 = 0 := by decide
      have u1 : IntKind.i64.wrap 1 = 1 := by decide
      have u2 : IntKind.i64.wrap 2 = 2 := by decide
      have z1 : (⟨#[98, 97, 99, 107, 32]⟩ : T).size = 5 := rfl
      have z2 : (⟨#[32]⟩ : T).size = 1 := rfl
      have z3 : (⟨#[10]⟩ : T).size = 1 := rfl
      have y2 : (⟨#[98, 97, 99, 107, 32]⟩ : T).size + (p.berth).size ≤ 9223372036854775807 := by omega
      have y3 : (⟨#[98, 97, 99, 107, 32]⟩ : T).size + (p.berth).size + (⟨#[32]⟩ : T).size ≤ 9223372036854775807 := by omega
      have y4 : (⟨#[98, 97, 99, 107, 32]⟩ : T).size + (p.berth).size + (⟨#[32]⟩ : T).size + (p.hold).size ≤ 9223372036854775807 := by omega
      have y5 : (⟨#[98, 97, 99, 107, 32]⟩ : T).size + (p.berth).size + (⟨#[32]⟩ : T).size + (p.hold).size + (⟨#[32]⟩ : T).size ≤ 9223372036854775807 := by omega
      have y6 : (⟨#[98, 97, 99, 107, 32]⟩ : T).size + (p.berth).size + (⟨#[32]⟩ : T).size + (p.hold).size + (⟨#[32]⟩ : T).size + (p.copy).size ≤ 9223372036854775807 := by omega
      have y7 : (⟨#[98, 97, 99, 107, 32]⟩ : T).size + (p.berth).size + (⟨#[32]⟩ : T).size + (p.hold).size + (⟨#[32]⟩ : T).size + (p.copy).size + (⟨#[32]⟩ : T).size ≤ 9223372036854775807 := by omega
      have y8 : (⟨#[98, 97, 99, 107, 32]⟩ : T).size + (p.berth).size + (⟨#[32]⟩ : T).size + (p.hold).size + (⟨#[32]⟩ : T).size + (p.copy).size + (⟨#[32]⟩ : T).size + (dec p.at_.toNat).size ≤ 9223372036854775807 := by omega
      have y9 : (⟨#[98, 97, 99, 107, 32]⟩ : T).size + (p.berth).size + (⟨#[32]⟩ : T).size + (p.hold).size + (⟨#[32]⟩ : T).size + (p.copy).size + (⟨#[32]⟩ : T).size + (dec p.at_.toNat).size + (⟨#[10]⟩ : T).size ≤ 9223372036854775807 := by omega
      simp [sw236, formSw, s1, s3, h0, hn, hba, k1, k2, k3, k4, q0, q1, q2, q3, g1, g2, a1, word, u0, u1, u2, y2, y3, y4, y5, y6, y7, y8, y9]
    by_cases k5 : p.kind = 5
    · have g2 := g2 k1 (by omega)
      cases q0 : h
      · have e0 : (isHold p.hold && inR p.at_ 0 1000000) = false := by rw [← eh, q0]
        simp [sw236, formSw, s1, s3, h0, hn, hba, k1, k2, k3, k4, k5, q0]
        intro u1 u2 u3
        rw [u1, u3] at e0
        cases e0
      rw [q0] at eh
      obtain ⟨q1, q2⟩ := Bool.and_eq_true_iff.1 eh.symm
      have hhs := isName_size (by simp only [isHold, Bool.and_eq_true] at q1; exact q1.1)
      cases q3 : sEq p.copy ⟨#[]⟩
      · simp [sw236, formSw, s1, s3, h0, hn, hba, k1, k2, k3, k4, k5, q0, q1, q2, q3]
      obtain ⟨r1, r2⟩ := inR_le q2
      obtain ⟨a1, b1⟩ := law140' p.at_ (by omega) (by omega)
      have z1 : (⟨#[103, 111, 116, 98, 97, 99, 107, 32]⟩ : T).size = 8 := rfl
      have z2 : (⟨#[32]⟩ : T).size = 1 := rfl
      have z3 : (⟨#[10]⟩ : T).size = 1 := rfl
      have y2 : (⟨#[103, 111, 116, 98, 97, 99, 107, 32]⟩ : T).size + (p.berth).size ≤ 9223372036854775807 := by omega
      have y3 : (⟨#[103, 111, 116, 98, 97, 99, 107, 32]⟩ : T).size + (p.berth).size + (⟨#[32]⟩ : T).size ≤ 9223372036854775807 := by omega
      have y4 : (⟨#[103, 111, 116, 98, 97, 99, 107, 32]⟩ : T).size + (p.berth).size + (⟨#[32]⟩ : T).size + (p.hold).size ≤ 9223372036854775807 := by omega
      have y5 : (⟨#[103, 111, 116, 98, 97, 99, 107, 32]⟩ : T).size + (p.berth).size + (⟨#[32]⟩ : T).size + (p.hold).size + (⟨#[32]⟩ : T).size ≤ 9223372036854775807 := by omega
      have y6 : (⟨#[103, 111, 116, 98, 97, 99, 107, 32]⟩ : T).size + (p.berth).size + (⟨#[32]⟩ : T).size + (p.hold).size + (⟨#[32]⟩ : T).size + (dec p.at_.toNat).size ≤ 9223372036854775807 := by omega
      have y7 : (⟨#[103, 111, 116, 98, 97, 99, 107, 32]⟩ : T).size + (p.berth).size + (⟨#[32]⟩ : T).size + (p.hold).size + (⟨#[32]⟩ : T).size + (dec p.at_.toNat).size + (⟨#[10]⟩ : T).size ≤ 9223372036854775807 := by omega
      simp [sw236, formSw, s1, s3, h0, hn, hba, k1, k2, k3, k4, k5, q0, q1, q2, q3, g1, g2, a1, y2, y3, y4, y5, y6, y7]
    by_cases k6 : p.kind = 6
    · cases q1 : inR p.seen 0 1000000
      · simp [sw236, formSw, s1, s3, h0, hn, hba, k1, k2, k3, k4, k5, k6, q1]
      cases e1 : sEq p.hold ⟨#[]⟩
      · have en : noHold p = false := by simp [noHold, e1]
        simp [sw236, formSw, s1, s3, h0, hn, hba, k1, k2, k3, k4, k5, k6, q1, e1, en]
      cases e2 : sEq p.copy ⟨#[]⟩
      · have en : noHold p = false := by simp [noHold, e1, e2]
        simp [sw236, formSw, s1, s3, h0, hn, hba, k1, k2, k3, k4, k5, k6, q1, e1, e2, en]
      by_cases e3 : p.at_ = 0
      case neg =>
        have en : noHold p = false := by simp [noHold, e1, e2, e3]
        simp [sw236, formSw, s1, s3, h0, hn, hba, k1, k2, k3, k4, k5, k6, q1, e1, e2, e3, en]
      have en : noHold p = true := by simp [noHold, e1, e2, e3]
      obtain ⟨r1, r2⟩ := inR_le q1
      obtain ⟨a1, b1⟩ := law140' p.seen (by omega) (by omega)
      have z1 : (⟨#[104, 101, 114, 101, 32]⟩ : T).size = 5 := rfl
      have z2 : (⟨#[32]⟩ : T).size = 1 := rfl
      have z3 : (⟨#[10]⟩ : T).size = 1 := rfl
      have y2 : (⟨#[104, 101, 114, 101, 32]⟩ : T).size + (p.berth).size ≤ 9223372036854775807 := by omega
      have y3 : (⟨#[104, 101, 114, 101, 32]⟩ : T).size + (p.berth).size + (⟨#[32]⟩ : T).size ≤ 9223372036854775807 := by omega
      have y4 : (⟨#[104, 101, 114, 101, 32]⟩ : T).size + (p.berth).size + (⟨#[32]⟩ : T).size + (dec p.seen.toNat).size ≤ 9223372036854775807 := by omega
      have y5 : (⟨#[104, 101, 114, 101, 32]⟩ : T).size + (p.berth).size + (⟨#[32]⟩ : T).size + (dec p.seen.toNat).size + (⟨#[10]⟩ : T).size ≤ 9223372036854775807 := by omega
      simp [sw236, formSw, s1, s3, h0, hn, hba, k1, k2, k3, k4, k5, k6, q1, e1, e2, e3, en, g1, a1, y2, y3, y4, y5]
    · simp [sw236, formSw, s1, s3, h0, hn, hba, k1, k2, k3, k4, k5, k6]
  cases qh : isHold p.hold
  · rw [qh] at tail
    by_cases k1 : p.kind = 1
    · simp [c236_cut, qb, qh, k1]
      exact tail false (by simp) _ _ (by simp) (by simp) (by simp [k1]) rfl rfl (fun h => absurd k1 h) (fun h => absurd k1 h)
    by_cases qw : p.wants = []
    case neg =>
      have hz := hz qw
      simp [c236_cut, qb, qh, k1, hz, qw, formSw]
    by_cases k6 : p.kind = 6
    · simp [c236_cut, qb, qh, k6, qw]
      exact tail false (by simp) _ _ (by simp) (by simp) (by simp [k6, qw]) rfl rfl (fun _ => by simp [qw]) (fun _ h => absurd k6 h)
    by_cases q0 : p.seen = 0
    · simp [c236_cut, qb, qh, k1, k6, qw, q0]
      exact tail false (by simp) _ _ (by simp) (by simp) (by simp [q0, qw]) rfl rfl (fun _ => by simp [qw]) (fun _ _ => q0)
    · simp [c236_cut, qb, qh, k1, k6, qw, q0, formSw]
  · rw [qh] at tail
    cases qa : inR p.at_ 0 1000000
    · rw [qa] at tail
      by_cases k1 : p.kind = 1
      · simp [c236_cut, qb, qh, qa, k1]
        exact tail false (by simp) _ _ (by simp) (by simp) (by simp [k1]) rfl rfl (fun h => absurd k1 h) (fun h => absurd k1 h)
      by_cases qw : p.wants = []
      case neg =>
        have hz := hz qw
        simp [c236_cut, qb, qh, qa, k1, hz, qw, formSw]
      by_cases k6 : p.kind = 6
      · simp [c236_cut, qb, qh, qa, k6, qw]
        exact tail false (by simp) _ _ (by simp) (by simp) (by simp [k6, qw]) rfl rfl (fun _ => by simp [qw]) (fun _ h => absurd k6 h)
      by_cases q0 : p.seen = 0
      · simp [c236_cut, qb, qh, qa, k1, k6, qw, q0]
        exact tail false (by simp) _ _ (by simp) (by simp) (by simp [q0, qw]) rfl rfl (fun _ => by simp [qw]) (fun _ _ => q0)
      · simp [c236_cut, qb, qh, qa, k1, k6, qw, q0, formSw]
    · rw [qa] at tail
      by_cases k1 : p.kind = 1
      · simp [c236_cut, qb, qh, qa, k1]
        exact tail true (by simp) _ _ (by simp) (by simp) (by simp [k1]) rfl rfl (fun h => absurd k1 h) (fun h => absurd k1 h)
      by_cases qw : p.wants = []
      case neg =>
        have hz := hz qw
        simp [c236_cut, qb, qh, qa, k1, hz, qw, formSw]
      by_cases k6 : p.kind = 6
      · simp [c236_cut, qb, qh, qa, k6, qw]
        exact tail true (by simp) _ _ (by simp) (by simp) (by simp [k6, qw]) rfl rfl (fun _ => by simp [qw]) (fun _ h => absurd k6 h)
      by_cases q0 : p.seen = 0
      · simp [c236_cut, qb, qh, qa, k1, k6, qw, q0]
        exact tail true (by simp) _ _ (by simp) (by simp) (by simp [q0, qw]) rfl rfl (fun _ => by simp [qw]) (fun _ _ => q0)
      · simp [c236_cut, qb, qh, qa, k1, k6, qw, q0, formSw]
end Go.Proofs.YtaikddhcplfpmaaGreatDoor

namespace Go.Proofs.YtaikddhcplfpmaaGreatDoor
open Go
set_option linter.unusedSimpArgs false
set_option maxRecDepth 100000

def mkT (l : List UInt8) : T := ⟨l.toArray⟩
/-- The pieces, the first with this ahead of it. -/
def cutA (b : UInt8) : List UInt8 → List UInt8 → List (List UInt8)
  | pre, [] => [pre]
  | pre, x :: r => if x = b then pre :: cutA b [] r else cutA b (pre ++ [x]) r
def cutT (s : T) (b : UInt8) : List T := (cutA b [] s.data.toList).map mkT

theorem mkT_data (l : List UInt8) : (mkT l).data.toList = l := rfl
theorem extract_mk (s : T) (a b : Nat) : s.extract a b = mkT ((s.data.toList.take b).drop a) := by
  apply text_ext
  rw [mkT_data, Lib.extract_data]
  simp [List.drop_take]

theorem plain_str (x : T) : rowsPlain [[AV.str x]] = true := rfl

def head194 (s : T) (b : Int) (i : Nat) (o : List T × Nat) : St := hd [(0, .str s), (1, .int .u8 b), (5, .ref 0), (6, .int .i64 o.2), (7, .int .i64 i)] [.arr 1 (o.1.map fun x => [.str x])] 0

theorem law194 (s : T) (b : UInt8) (n : Int) (hn : n = b.toNat) (hs : s.size ≤ 1048576) : F 194 [.str s, .int .u8 n] [] = some (.sl .own 1 ((cutT s b).map fun x => [.str x]), []) := by
  refine F_run fn194 rfl ?_
  simp [c194]
  refine (loop_list s.data.toList (fun i o => head194 s n i o) (fun i (o : List T × Nat) => o.2 ≤ i ∧ o.1.length ≤ i) (fun i r o => (.sl .own 1 ((o.1 ++ (cutA b ((s.data.toList.take i).drop o.2) r).map mkT).map fun x => [.str x]), [])) (fun o Y hinv => ?_) (fun i a r o Y ha hi hr hinv hY => ?_) ([], 0) ?_ ⟨Nat.le_refl _, Nat.le_refl _⟩ ?_).trans ?_
  · obtain ⟨out, from_⟩ := o
    obtain ⟨i1, i2⟩ := hinv
    simp only at i1 i2
    rw [size_toList] at i1 i2 ⊢
    have e := extract_mk s from_ s.size
    have h1 : (from_ : Int) ≤ s.size := by omega
    have h2 : (out.length + 1) * 16 ≤ 140737488355328 := by omega
    have h3 : out.length + 1 ≤ 140737488355328 := by omega
    simp [head194, c194b0, cutA, slBounds, takeRows, plain_str, i1, h1, h2, h3, e]
  · obtain ⟨out, from_⟩ := o
    obtain ⟨i1, i2⟩ := hinv
    simp only at i1 i2
    have hi2 : i < s.size := by rw [← size_toList]; exact hi
    have hiI : (i : Int) < s.size := by omega
    have hw : IntKind.i64.wrap ((i : Int) + 1) = (i : Int) + 1 := i64w (by omega) (by omega)
    have ha' : s.data[i]? = some a := by simpa using ha
    have e := extract_mk s from_ i
    have h1 : (from_ : Int) ≤ i := by omega
    have h2 : (out.length + 1) * 16 ≤ 140737488355328 := by omega
    have h3 : out.length + 1 ≤ 140737488355328 := by omega
    have h4 : i ≤ s.size := by omega
    have ht : (s.data.toList.take (i + 1)).drop from_ = (s.data.toList.take i).drop from_ ++ [a] := by
      rw [List.take_add_one, ha, Option.toList_some, List.drop_append_of_le_length (by rw [List.length_take]; omega)]
    by_cases q : a = b
    · subst q
      have q2 : (a.toNat : Int) = n := hn.symm
      have hY' := fun s' h => hY (out ++ [mkT ((s.data.toList.take i).drop from_)], i + 1) s' ⟨Nat.le_refl _, by simp only [List.length_append, List.length_singleton]; omega⟩ h
      have ht2 : (s.data.toList.take (i + 1)).drop (i + 1) = [] := List.drop_eq_nil_of_le (by rw [List.length_take]; omega)
      simp only [ht2] at hY'
      simp [head194, c194b0, hiI, ha', cutA, slBounds, takeRows, plain_str, h1, h2, h3, h4, e, q2, hw]
      rw [hY' _ (by simp [head194, hw])]
      simp
    · have q2 : ¬ (a.toNat : Int) = n := by rw [hn]; intro h; exact q (UInt8.toNat_inj.1 (by omega))
      have hY' := fun s' h => hY (out, from_) s' ⟨Nat.le_succ_of_le i1, Nat.le_succ_of_le i2⟩ h
      simp only [ht] at hY'
      simp [head194, c194b0, hiI, ha', cutA, q, q2]
      rw [hY' _ (by simp [head194, hw])]
      simp
  · simp [head194]
  · rw [size_toList]; unfold big; omega
  · simp [cutT]

/-- A word of a row; the empty text where there are fewer. -/
def atW (ws : List T) (k : Nat) : T := ws.getD k ⟨#[]⟩
theorem law239 (ws : List T) (k : Nat) : F 239 [.sl .bor 1 (ws.map fun x => [.str x]), .int .i64 k] [] = some (.str (atW ws k), []) := by
  refine F_run fn239 rfl ?_
  by_cases h : k < ws.length
  · have hI : (k : Int) < ws.length := by omega
    simp [c239, h, hI, atW, List.getD]
  · have hI : ¬ (k : Int) < ws.length := by omega
    simp [c239, hI, atW, List.getD, List.getElem?_eq_none (Nat.le_of_not_lt h)]

/-- A short decimal's number, its digits read on to this. -/
def digs : Int → List UInt8 → Option Int
  | a, [] => some a
  | a, x :: r => if 48 ≤ x.toNat ∧ x.toNat ≤ 57 then digs (a * 10 + (x.toNat - 48 : Int)) r else none
def num7 (s : T) : Int := if 1 ≤ s.size ∧ s.size ≤ 7 then match digs 0 s.data.toList with
    | some n => if sEq (dec n.toNat) s then n else -1
    | none => -1
  else -1

def head226 (s : T) (i : Nat) (a : Int) : St := hd [(0, .str s), (3, .int .i64 a), (4, .int .i64 i)] [] 0
theorem law226 (s : T) : F 226 [.str s] [] = some (.int .i64 (num7 s), []) := by
  refine F_run fn226 rfl ?_
  simp [c226, num7]
  by_cases h1 : 1 ≤ s.size
  · by_cases h2 : s.size ≤ 7
    · have h3 : 1 ≤ (s.size : Int) := by omega
      have h4 : ¬ 7 < (s.size : Int) := by omega
      have hp : ∀ i : Nat, i < 7 → (10 ^ i : Int) ≤ 1000000 := fun i hi => by
        have : (10 : Int) ^ i = ((10 ^ i : Nat) : Int) := by norm_cast
        have h6 : 10 ^ i ≤ 10 ^ 6 := Nat.pow_le_pow_right (by omega) (by omega)
        omega
      simp [h1, h2, h3, h4]
      refine (loop_list s.data.toList (fun i a => head226 s i a) (fun i (a : Int) => 0 ≤ a ∧ a < 10 ^ i) (fun i r a => (AV.int .i64 (match digs a r with
        | some n => if sEq (dec n.toNat) s then n else -1
        | none => -1), [])) (fun a Y hinv => ?_) (fun i x r a Y ha hi hr hinv hY => ?_) 0 ?_ ⟨by omega, by simp⟩ ?_).trans ?_
      · obtain ⟨a0, a1⟩ := hinv
        rw [size_toList] at a1 ⊢
        have a2 : a < 10000000 := by
          have h6 : (10 : Nat) ^ s.size ≤ 10 ^ 7 := Nat.pow_le_pow_right (by omega) h2
          have : (10 : Int) ^ s.size = ((10 ^ s.size : Nat) : Int) := by norm_cast
          omega
        have hd := law140 a.toNat (by omega)
        rw [show ((a.toNat : Nat) : Int) = a from by omega] at hd
        simp [head226, c226b0, digs, hd]
        cases q : sEq (dec a.toNat) s <;> simp
      · obtain ⟨a0, a1⟩ := hinv
        rw [size_toList] at hi
        have a2 : a < 1000000 := by
          have h6 : (10 : Nat) ^ i ≤ 10 ^ 6 := Nat.pow_le_pow_right (by omega) (by omega)
          have : (10 : Int) ^ i = ((10 ^ i : Nat) : Int) := by norm_cast
          omega
        have hiI : (i : Int) < s.size := by omega
        have hw : IntKind.i64.wrap ((i : Int) + 1) = (i : Int) + 1 := i64w (by omega) (by omega)
        have ha' : s.data[i]? = some x := by simpa using ha
        have hx : x.toNat < 256 := x.toNat_lt
        by_cases k1 : 48 ≤ x.toNat
        · by_cases k2 : x.toNat ≤ 57
          · have k3 : ¬ (x.toNat : Int) < 48 := by omega
            have k4 : ¬ 57 < (x.toNat : Int) := by omega
            have w1 : IntKind.i64.wrap (a * 10) = a * 10 := i64w (by omega) (by omega)
            have w2 : IntKind.u8.wrap ((x.toNat : Int) - 48) = (x.toNat : Int) - 48 := by
              simp [IntKind.wrap, IntKind.signed, IntKind.bits]; omega
            have w3 : IntKind.i64.wrap ((x.toNat : Int) - 48) = (x.toNat : Int) - 48 := i64w (by omega) (by omega)
            have w4 : IntKind.i64.wrap (a * 10 + ((x.toNat : Int) - 48)) = a * 10 + ((x.toNat : Int) - 48) := i64w (by omega) (by omega)
            have hY' := fun s' h => hY (a * 10 + ((x.toNat : Int) - 48)) s' ⟨by omega, by rw [Int.pow_succ]; omega⟩ h
            simp [head226, c226b0, hiI, ha', digs, k1, k2, k3, k4, w1, w2, w3, w4]
            exact hY' _ (by simp [head226, hw])
          · have k3 : ¬ (x.toNat : Int) < 48 := by omega
            have k4 : 57 < (x.toNat : Int) := by omega
            simp [head226, c226b0, hiI, ha', digs, k1, k2, k3, k4]
        · have k3 : (x.toNat : Int) < 48 := by omega
          simp [head226, c226b0, hiI, ha', digs, k1, k3]
      · simp [head226]
      · rw [size_toList]; unfold big; omega
      · rfl
    · have h3 : 1 ≤ (s.size : Int) := by omega
      have h4 : 7 < (s.size : Int) := by omega
      simp [h1, h2, h3, h4]
  · have h3 : ¬ 1 ≤ (s.size : Int) := by omega
    simp [h1, h3]
end Go.Proofs.YtaikddhcplfpmaaGreatDoor

namespace Go.Proofs.YtaikddhcplfpmaaGreatDoor
open Go
set_option linter.unusedSimpArgs false
set_option maxRecDepth 100000
def tl235 : CCode := (.seq (.seq (.region [
    ⟨some 113, .mov (.tmp 0), none⟩,
    ⟨some 114, .bin .eql (.tmp 113) (.const (.str ⟨#[]⟩)), none⟩,
    ⟨some 115, .mov (.tmp 114), none⟩,
    ⟨some 116, .load (.tmp 6) 7 true .plain, some (115, false)⟩,
    ⟨some 117, .call 236 [false] [.tmp 116], some (115, false)⟩,
    ⟨some 118, .mov (.tmp 0), some (115, false)⟩,
    ⟨some 119, .bin .neq (.tmp 117) (.tmp 118), some (115, false)⟩,
    ⟨some 120, .pick (.tmp 115) (.const (.bool true)) (.tmp 119), none⟩] [2, 6, 120])
  (.cond (.tmp 120)
    (.seq (.region [
      ⟨some 121, .build [.int .i64 0, .str ⟨#[]⟩, .int .i64 0, .sl .own 7 [], .str ⟨#[]⟩, .str ⟨#[]⟩, .int .i64 0] [], none⟩,
      ⟨none, .store (.tmp 2) (.tmp 121) 7, none⟩,
      ⟨some 3, .mov (.const (.bool false)), none⟩] [2, 3])
    .ret)
    .skip))
  (.seq (.region [
    ⟨some 122, .load (.tmp 6) 7 true .plain, none⟩,
    ⟨none, .store (.tmp 2) (.tmp 122) 7, none⟩,
    ⟨some 3, .mov (.const (.bool true)), none⟩] [2, 3])
  .ret))
theorem c235_cut : c235 = ⟨123, [.cell 2 7 true, .tmp 3],
  (.seq (.region [
    ⟨some 2, .alloc [.int .i64 0, .str ⟨#[]⟩, .int .i64 0, .sl .own 7 [], .str ⟨#[]⟩, .str ⟨#[]⟩, .int .i64 0], none⟩,
    ⟨some 3, .mov (.const (.bool false)), none⟩] [0, 2])
  (.seq (.region [
    ⟨some 10, .mov (.tmp 0), none⟩,
    ⟨some 11, .call 194 [false, false] [.tmp 10, .const (.int .u8 10)], none⟩,
    ⟨some 4, .mov (.tmp 11), none⟩] [0, 2, 4])
  (.seq (.region [
    ⟨some 12, .mov (.tmp 4), none⟩,
    ⟨some 13, .iaddr 1 (.tmp 12) (.const (.int .i64 0)), none⟩,
    ⟨some 14, .load (.tmp 13) 1 false .plain, none⟩,
    ⟨some 15, .call 194 [false, false] [.tmp 14, .const (.int .u8 32)], none⟩,
    ⟨some 5, .mov (.tmp 15), none⟩] [0, 2, 4, 5])
  (.seq (.region [
    ⟨some 16, .mov (.tmp 5), none⟩,
    ⟨some 17, .call 239 [false, false] [.tmp 16, .const (.int .i64 1)], none⟩,
    ⟨some 18, .build [.int .i64 0, .str ⟨#[]⟩, .int .i64 0, .sl .own 7 [], .str ⟨#[]⟩, .str ⟨#[]⟩, .int .i64 0] [(1, 1, .tmp 17)], none⟩,
    ⟨some 6, .alloc [.int .i64 0, .str ⟨#[]⟩, .int .i64 0, .sl .own 7 [], .str ⟨#[]⟩, .str ⟨#[]⟩, .int .i64 0], none⟩,
    ⟨none, .store (.tmp 6) (.tmp 18) 7, none⟩] [0, 2, 4, 5, 6])
  (.seq (.seq (.region [
    ⟨some 19, .mov (.tmp 5), none⟩,
    ⟨some 20, .iaddr 1 (.tmp 19) (.const (.int .i64 0)), none⟩,
    ⟨some 21, .load (.tmp 20) 1 false .plain, none⟩] [0, 2, 4, 5, 6, 21])
  (.block 0
    (.seq (.region [
      ⟨some 23, .bin .eql (.tmp 21) (.const (.str ⟨#[116, 111, 108, 100]⟩)), none⟩,
      ⟨some 22, .mov (.tmp 23), none⟩] [0, 2, 4, 5, 6, 21, 22])
    (.cond (.tmp 22)
      (.seq (.region [
        ⟨some 24, .faddr (.tmp 6) 0, none⟩,
        ⟨none, .store (.tmp 24) (.const (.int .i64 1)) 1, none⟩] [0, 2, 4, 5, 6])
      (.seq (.region [
        ⟨some 25, .mov (.tmp 5), none⟩,
        ⟨some 26, .call 239 [false, false] [.tmp 25, .const (.int .i64 2)], none⟩,
        ⟨some 27, .call 226 [false] [.tmp 26], none⟩,
        ⟨some 28, .faddr (.tmp 6) 2, none⟩,
        ⟨none, .store (.tmp 28) (.tmp 27) 1, none⟩] [0, 2, 4, 6])
      (.seq (.region [
        ⟨some 7, .mov (.const (.int .i64 1)), none⟩] [0, 2, 4, 6, 7])
      (.block 1
        (.loop [0, 2, 4, 6, 7] c235b0)))))
      (.seq (.seq (.region [
        ⟨some 72, .bin .eql (.tmp 21) (.const (.str ⟨#[97, 115, 107, 101, 100]⟩)), none⟩,
        ⟨some 71, .mov (.tmp 72), none⟩] [0, 2, 5, 6, 21, 71])
      (.cond (.tmp 71)
        .skip
        (.seq (.region [
          ⟨some 73, .bin .eql (.tmp 21) (.const (.str ⟨#[103, 105, 118, 101, 110]⟩)), none⟩,
          ⟨some 71, .mov (.tmp 73), none⟩] [0, 2, 5, 6, 21, 71])
        (.cond (.tmp 71)
          .skip
          (.region [
            ⟨some 74, .bin .eql (.tmp 21) (.const (.str ⟨#[98, 97, 99, 107]⟩)), none⟩,
            ⟨some 71, .mov (.tmp 74), none⟩] [0, 2, 5, 6, 21, 71])))))
      (.cond (.tmp 71)
        (.seq (.region [
          ⟨some 75, .faddr (.tmp 6) 0, none⟩,
          ⟨none, .store (.tmp 75) (.const (.int .i64 2)) 1, none⟩] [0, 2, 5, 6])
        (.seq (.seq (.region [
          ⟨some 76, .mov (.tmp 5), none⟩,
          ⟨some 77, .iaddr 1 (.tmp 76) (.const (.int .i64 0)), none⟩,
          ⟨some 78, .load (.tmp 77) 1 false .plain, none⟩,
          ⟨some 79, .bin .eql (.tmp 78) (.const (.str ⟨#[103, 105, 118, 101, 110]⟩)), none⟩] [0, 2, 5, 6, 79])
        (.cond (.tmp 79)
          (.region [
            ⟨some 80, .faddr (.tmp 6) 0, none⟩,
            ⟨none, .store (.tmp 80) (.const (.int .i64 3)) 1, none⟩] [0, 2, 5, 6])
          .skip))
        (.seq (.seq (.region [
          ⟨some 81, .mov (.tmp 5), none⟩,
          ⟨some 82, .iaddr 1 (.tmp 81) (.const (.int .i64 0)), none⟩,
          ⟨some 83, .load (.tmp 82) 1 false .plain, none⟩,
          ⟨some 84, .bin .eql (.tmp 83) (.const (.str ⟨#[98, 97, 99, 107]⟩)), none⟩] [0, 2, 5, 6, 84])
        (.cond (.tmp 84)
          (.region [
            ⟨some 85, .faddr (.tmp 6) 0, none⟩,
            ⟨none, .store (.tmp 85) (.const (.int .i64 4)) 1, none⟩] [0, 2, 5, 6])
          .skip))
        (.seq (.region [
          ⟨some 86, .mov (.tmp 5), none⟩,
          ⟨some 87, .call 239 [false, false] [.tmp 86, .const (.int .i64 2)], none⟩,
          ⟨some 88, .faddr (.tmp 6) 4, none⟩,
          ⟨none, .store (.tmp 88) (.tmp 87) 1, none⟩] [0, 2, 5, 6])
        (.seq (.region [
          ⟨some 89, .mov (.tmp 5), none⟩,
          ⟨some 90, .call 239 [false, false] [.tmp 89, .const (.int .i64 3)], none⟩,
          ⟨some 91, .faddr (.tmp 6) 5, none⟩,
          ⟨none, .store (.tmp 91) (.tmp 90) 1, none⟩] [0, 2, 5, 6])
        (.region [
          ⟨some 92, .mov (.tmp 5), none⟩,
          ⟨some 93, .call 239 [false, false] [.tmp 92, .const (.int .i64 4)], none⟩,
          ⟨some 94, .call 226 [false] [.tmp 93], none⟩,
          ⟨some 95, .faddr (.tmp 6) 6, none⟩,
          ⟨none, .store (.tmp 95) (.tmp 94) 1, none⟩] [0, 2, 6]))))))
        (.seq (.region [
          ⟨some 97, .bin .eql (.tmp 21) (.const (.str ⟨#[103, 111, 116, 98, 97, 99, 107]⟩)), none⟩,
          ⟨some 96, .mov (.tmp 97), none⟩] [0, 2, 5, 6, 21, 96])
        (.cond (.tmp 96)
          (.seq (.region [
            ⟨some 98, .faddr (.tmp 6) 0, none⟩,
            ⟨none, .store (.tmp 98) (.const (.int .i64 5)) 1, none⟩] [0, 2, 5, 6])
          (.seq (.region [
            ⟨some 99, .mov (.tmp 5), none⟩,
            ⟨some 100, .call 239 [false, false] [.tmp 99, .const (.int .i64 2)], none⟩,
            ⟨some 101, .faddr (.tmp 6) 4, none⟩,
            ⟨none, .store (.tmp 101) (.tmp 100) 1, none⟩] [0, 2, 5, 6])
          (.region [
            ⟨some 102, .mov (.tmp 5), none⟩,
            ⟨some 103, .call 239 [false, false] [.tmp 102, .const (.int .i64 3)], none⟩,
            ⟨some 104, .call 226 [false] [.tmp 103], none⟩,
            ⟨some 105, .faddr (.tmp 6) 6, none⟩,
            ⟨none, .store (.tmp 105) (.tmp 104) 1, none⟩] [0, 2, 6])))
          (.seq (.region [
            ⟨some 107, .bin .eql (.tmp 21) (.const (.str ⟨#[104, 101, 114, 101]⟩)), none⟩,
            ⟨some 106, .mov (.tmp 107), none⟩] [0, 2, 5, 6, 106])
          (.cond (.tmp 106)
            (.seq (.region [
              ⟨some 108, .faddr (.tmp 6) 0, none⟩,
              ⟨none, .store (.tmp 108) (.const (.int .i64 6)) 1, none⟩] [0, 2, 5, 6])
            (.region [
              ⟨some 109, .mov (.tmp 5), none⟩,
              ⟨some 110, .call 239 [false, false] [.tmp 109, .const (.int .i64 2)], none⟩,
              ⟨some 111, .call 226 [false] [.tmp 110], none⟩,
              ⟨some 112, .faddr (.tmp 6) 2, none⟩,
              ⟨none, .store (.tmp 112) (.tmp 111) 1, none⟩] [0, 2, 6]))
            .skip))))))))))
  tl235)))))⟩ := rfl

theorem cutA_ne (b : UInt8) : ∀ (l pre : List UInt8), ∃ x r, cutA b pre l = x :: r
  | [], pre => ⟨_, _, rfl⟩
  | a :: l, pre => by
    rw [cutA]
    split
    · exact ⟨_, _, rfl⟩
    · exact cutA_ne b l _
theorem cutT_ne (s : T) (b : UInt8) : ∃ x r, cutT s b = x :: r := by
  obtain ⟨x, r, h⟩ := cutA_ne b s.data.toList []
  exact ⟨mkT x, r.map mkT, by rw [cutT, h]; rfl⟩

def unstar (h : T) : T := if sEq h ⟨#[42]⟩ then ⟨#[]⟩ else h
def readWant (vs : List T) : Want := ⟨atW vs 1, num7 (atW vs 2), unstar (atW vs 3), num7 (atW vs 4), num7 (atW vs 5), num7 (atW vs 6), num7 (atW vs 7)⟩
def readLines (ls : List T) : List Want := ls.dropLast.map fun l => readWant (cutT l 32)
def readKind (w : T) : Int := if sEq w ⟨#[98, 97, 99, 107]⟩ then 4 else if sEq w ⟨#[103, 105, 118, 101, 110]⟩ then 3 else 2
def isAsk (w : T) : Bool := sEq w ⟨#[97, 115, 107, 101, 100]⟩ || (sEq w ⟨#[103, 105, 118, 101, 110]⟩ || sEq w ⟨#[98, 97, 99, 107]⟩)
/-- What a text's words make, looked at one by one. -/
def readWords (w : T) (ws ls : List T) : Parcel :=
  if sEq w ⟨#[116, 111, 108, 100]⟩ then ⟨1, atW ws 1, num7 (atW ws 2), readLines ls, ⟨#[]⟩, ⟨#[]⟩, 0⟩
  else if isAsk w then ⟨readKind w, atW ws 1, 0, [], atW ws 2, atW ws 3, num7 (atW ws 4)⟩
  else if sEq w ⟨#[103, 111, 116, 98, 97, 99, 107]⟩ then ⟨5, atW ws 1, 0, [], atW ws 2, ⟨#[]⟩, num7 (atW ws 3)⟩
  else if sEq w ⟨#[104, 101, 114, 101]⟩ then ⟨6, atW ws 1, num7 (atW ws 2), [], ⟨#[]⟩, ⟨#[]⟩, 0⟩
  else ⟨0, atW ws 1, 0, [], ⟨#[]⟩, ⟨#[]⟩, 0⟩
def readS (s : T) : Parcel := readWords (atW (cutT (atW (cutT s 10) 0) 32) 0) (cutT (atW (cutT s 10) 0) 32) (cutT s 10).tail
def noParcel : Parcel := ⟨0, ⟨#[]⟩, 0, [], ⟨#[]⟩, ⟨#[]⟩, 0⟩
def readT (s : T) : Parcel × Bool := if sEq s ⟨#[]⟩ || !(sEq (parcelForm (readS s)) s) then (noParcel, false) else (readS s, true)

/-- The wants of a parcel that lies in a box: no row yet, or a row of its own. -/
def Held (h : Nat → Option AO) (b : Nat) (ws : List Want) (W : AV) : Prop := (W = .sl .own 7 [] ∧ ws = []) ∨ ∃ c, W = .ref c ∧ c ≠ b ∧ c ≠ 0 ∧ h c = some (.arr 7 (ws.map Want.c))

theorem tail235 (s : T) (p : Parcel) (hs : p.small) (st : St) (n b : Nat) (W : AV) (s0 : st.slots 0 = .str s) (s2 : st.slots 2 = .ptr 0 0 0) (s6 : st.slots 6 = .ptr b 0 0)
    (h0 : st.heap 0 = some (.box (noParcel.c .own))) (hb : st.heap b = some (.box [.int .i64 p.kind, .str p.berth, .int .i64 p.seen, W, .str p.hold, .str p.copy, .int .i64 p.at_])) (hW : Held st.heap b p.wants W) (hn : st.next = n + 1) (hz : st.base = 0) (r : Parcel × Bool)
    (hr : r = if sEq s ⟨#[]⟩ || !(sEq (parcelForm p) s) then (noParcel, false) else (p, true)) :
    fin [.cell 2 7 true, .tmp 3] 0 (X F [.code tl235] (.normal, st)) = some (.tup [.agg (r.1.c .own), .bool r.2], []) := by
  have a := law236 p hs
  simp only [Parcel.c] at a
  simp only [Parcel.c, noParcel, List.map_nil] at h0
  subst hr
  rcases hW with ⟨rfl, hw⟩ | ⟨c, rfl, c1, c2, hc⟩
  · rw [hw] at a
    simp only [List.map_nil] at a
    cases k : sEq s ⟨#[]⟩
    · cases q : sEq (parcelForm p) s
      · simp [tl235, s0, s2, s6, h0, hb, hn, hz, a, k, q, noParcel, Parcel.c]
      · simp [tl235, s0, s2, s6, h0, hb, hn, hz, a, k, q, Parcel.c, hw]
    · simp [tl235, s0, s2, s6, h0, hb, hn, hz, k, noParcel, Parcel.c]
  · cases k : sEq s ⟨#[]⟩
    · cases q : sEq (parcelForm p) s
      · simp [tl235, s0, s2, s6, h0, hb, hn, hz, a, hc, c1, c2, k, q, noParcel, Parcel.c]
      · simp [tl235, s0, s2, s6, h0, hb, hn, hz, a, hc, c1, c2, k, q, Parcel.c]
    · simp [tl235, s0, s2, s6, h0, hb, hn, hz, hc, c1, c2, k, noParcel, Parcel.c]

theorem cutA_len (b : UInt8) : ∀ l pre : List UInt8, (cutA b pre l).length ≤ l.length + 1
  | [], pre => by simp [cutA]
  | a :: l, pre => by
    rw [cutA]
    split
    · have := cutA_len b l []; simp only [List.length_cons]; omega
    · have := cutA_len b l (pre ++ [a]); simp only [List.length_cons]; omega
theorem cutT_len (s : T) (b : UInt8) : (cutT s b).length ≤ s.size + 1 := by
  have := cutA_len b s.data.toList []
  rw [size_toList] at this
  simpa [cutT] using this
theorem cutA_mem (b : UInt8) : ∀ l pre x : List UInt8, x ∈ cutA b pre l → x.length ≤ pre.length + l.length
  | [], pre, x, h => by simp [cutA] at h; subst h; simp
  | a :: l, pre, x, h => by
    rw [cutA] at h
    split at h
    · rcases List.mem_cons.1 h with h | h
      · subst h; omega
      · have := cutA_mem b l [] x h; simp only [List.length_cons, List.length_nil] at *; omega
    · have := cutA_mem b l (pre ++ [a]) x h; simp only [List.length_cons, List.length_append, List.length_nil] at *; omega
theorem cutT_mem {s x : T} {b : UInt8} (h : x ∈ cutT s b) : x.size ≤ s.size := by
  simp only [cutT, List.mem_map] at h
  obtain ⟨l, h1, rfl⟩ := h
  have := cutA_mem b _ _ _ h1
  rw [size_toList] at this
  have e : (mkT l).size = l.length := rfl
  rw [e]
  simpa using this

def readOut (s : T) (p : Parcel) : Parcel × Bool := if sEq s ⟨#[]⟩ || !(sEq (parcelForm p) s) then (noParcel, false) else (p, true)
def wantsV : List Want → AV
  | [] => .sl .own 7 []
  | _ :: _ => .ref 3
def wantsH : List Want → List AO
  | [] => []
  | w :: ws => [.arr 7 ((w :: ws).map Want.c)]
def head235 (s : T) (ls : List T) (b : T) (n : Int) (j : Nat) (acc : List Want) : St := hd [(0, .str s), (2, .ptr 0 0 0), (4, .ref 1), (6, .ptr 2 0 0), (7, .int .i64 ((j : Int) + 1))]
  ([.box [.int .i64 0, .str ⟨#[]⟩, .int .i64 0, .sl .own 7 [], .str ⟨#[]⟩, .str ⟨#[]⟩, .int .i64 0], .arr 1 (ls.map fun x => [.str x]), .box [.int .i64 1, .str b, .int .i64 n, wantsV acc, .str ⟨#[]⟩, .str ⟨#[]⟩, .int .i64 0]] ++ wantsH acc) 0

theorem loop235 (s l0 : T) (ls : List T) (b : T) (n : Int) (hs : s.size ≤ 1048576) (hl : cutT s 10 = l0 :: ls) (st : St) (hst : st.norm [0, 2, 4, 6, 7] = head235 s (l0 :: ls) b n 0 []) :
    fin [.cell 2 7 true, .tmp 3] 0 (X F [.code (.loop [0, 2, 4, 6, 7] c235b0), .blk 1, .blk 0, .code tl235] (.normal, st)) = some (.tup [.agg ((readOut s ⟨1, b, n, readLines ls, ⟨#[]⟩, ⟨#[]⟩, 0⟩).1.c .own), .bool (readOut s ⟨1, b, n, readLines ls, ⟨#[]⟩, ⟨#[]⟩, 0⟩).2], []) := by
  have hlen := cutT_len s 10
  rw [hl, List.length_cons] at hlen
  refine (loop_list ls.dropLast (fun j acc => head235 s (l0 :: ls) b n j acc) (fun j (acc : List Want) => acc.length ≤ j) (fun j r acc => (.tup [.agg ((readOut s ⟨1, b, n, acc ++ r.map (fun l => readWant (cutT l 32)), ⟨#[]⟩, ⟨#[]⟩, 0⟩).1.c .own), .bool (readOut s ⟨1, b, n, acc ++ r.map (fun l => readWant (cutT l 32)), ⟨#[]⟩, ⟨#[]⟩, 0⟩).2], [])) (fun acc Y hinv => ?_) (fun j l r acc Y ha hj hr hinv hY => ?_) [] hst (Nat.le_refl _) ?_).trans ?_
  · rw [List.length_dropLast] at hinv ⊢
    have w1 : IntKind.i64.wrap (((ls.length - 1 : Nat) : Int) + 1 + 1) = ((ls.length - 1 : Nat) : Int) + 1 + 1 := i64w (by omega) (by omega)
    have h1 : ¬ ((ls.length - 1 : Nat) : Int) + 1 + 1 < (ls.length : Int) + 1 := by omega
    have ht := tail235 s ⟨1, b, n, acc, ⟨#[]⟩, ⟨#[]⟩, 0⟩ ⟨by show acc.length ≤ _; omega⟩
    cases acc with
    | nil =>
      simp [head235, c235b0, w1, h1, wantsV, wantsH]
      exact ht _ _ 2 (.sl .own 7 []) (by simp) (by simp) (by simp) (by simp [noParcel, Parcel.c]) (by simp) (.inl ⟨rfl, rfl⟩) (by simp; rfl) rfl _ rfl
    | cons a acc =>
      simp [head235, c235b0, w1, h1, wantsV, wantsH]
      exact ht _ _ 2 (.ref 3) (by simp) (by simp) (by simp) (by simp [noParcel, Parcel.c]) (by simp) (.inr ⟨3, rfl, by simp, by simp, by simp⟩) (by simp; rfl) rfl _ rfl
  · rw [List.length_dropLast] at hj
    have w1 : IntKind.i64.wrap ((j : Int) + 1 + 1) = (j : Int) + 1 + 1 := i64w (by omega) (by omega)
    have h1 : (j : Int) + 1 + 1 < (ls.length : Int) + 1 := by omega
    have h2 : j < ls.length := by omega
    have h3 : (0 : Int) ≤ (j : Int) + 1 := by omega
    have h4 : (acc.length + 1) * 72 ≤ 140737488355328 := by omega
    have h5 : acc.length + 1 ≤ 140737488355328 := by omega
    have hlj : ls[j]? = some l := by
      rw [List.dropLast_eq_take, List.getElem?_take, if_pos hj] at ha
      exact ha
    obtain ⟨_, hg⟩ := List.getElem?_eq_some_iff.1 hlj
    have hmem : l ∈ cutT s 10 := by rw [hl]; exact List.mem_cons_of_mem _ (List.mem_of_getElem? hlj)
    have hsl := cutT_mem hmem
    obtain ⟨v, vr, hv⟩ := cutT_ne l 32
    have a2 := law194 l 32 32 rfl (by omega)
    rw [hv] at a2
    simp only [List.map_cons] at a2
    have at1 : F 239 [.sl .bor 1 ([.str v] :: vr.map fun x => [.str x]), .int .i64 1] [] = some (.str (atW (v :: vr) 1), []) := law239 (v :: vr) 1
    have at2 : F 239 [.sl .bor 1 ([.str v] :: vr.map fun x => [.str x]), .int .i64 2] [] = some (.str (atW (v :: vr) 2), []) := law239 (v :: vr) 2
    have at3 : F 239 [.sl .bor 1 ([.str v] :: vr.map fun x => [.str x]), .int .i64 3] [] = some (.str (atW (v :: vr) 3), []) := law239 (v :: vr) 3
    have at4 : F 239 [.sl .bor 1 ([.str v] :: vr.map fun x => [.str x]), .int .i64 4] [] = some (.str (atW (v :: vr) 4), []) := law239 (v :: vr) 4
    have at5 : F 239 [.sl .bor 1 ([.str v] :: vr.map fun x => [.str x]), .int .i64 5] [] = some (.str (atW (v :: vr) 5), []) := law239 (v :: vr) 5
    have at6 : F 239 [.sl .bor 1 ([.str v] :: vr.map fun x => [.str x]), .int .i64 6] [] = some (.str (atW (v :: vr) 6), []) := law239 (v :: vr) 6
    have at7 : F 239 [.sl .bor 1 ([.str v] :: vr.map fun x => [.str x]), .int .i64 7] [] = some (.str (atW (v :: vr) 7), []) := law239 (v :: vr) 7
    have hY' := fun s' h => hY (acc ++ [readWant (cutT l 32)]) s' (by simp only [List.length_append, List.length_singleton]; omega) h
    rw [hv] at hY'
    have p1 : ∀ (a : T) (b : Int) (c : T) (d e f g : Int), rowsPlain [[AV.str a, .int .i64 b, .str c, .int .i64 d, .int .i64 e, .int .i64 f, .int .i64 g]] = true := fun _ _ _ _ _ _ _ => rfl
    cases q : sEq (atW (v :: vr) 3) ⟨#[42]⟩
    · cases acc with
      | nil =>
        simp [head235, c235b0, w1, h1, h2, h3, hg, a2, at1, at2, at3, at4, at5, at6, at7, law226, q, takeRows, p1, wantsV, wantsH]
        rw [hY' _ (by simp [head235, w1, readWant, unstar, q, wantsV, wantsH])]
        simp [readWant, unstar, hv, q]
      | cons a acc =>
        simp only [List.length_cons] at h4 h5
        simp [head235, c235b0, w1, h1, h2, h3, h4, h5, hg, a2, at1, at2, at3, at4, at5, at6, at7, law226, q, takeRows, p1, wantsV, wantsH]
        rw [hY' _ (by simp [head235, w1, readWant, unstar, q, wantsV, wantsH])]
        simp [readWant, unstar, hv, q]
    · cases acc with
      | nil =>
        simp [head235, c235b0, w1, h1, h2, h3, hg, a2, at1, at2, at3, at4, at5, at6, at7, law226, q, takeRows, p1, wantsV, wantsH]
        rw [hY' _ (by simp [head235, w1, readWant, unstar, q, wantsV, wantsH])]
        simp [readWant, unstar, hv, q]
      | cons a acc =>
        simp only [List.length_cons] at h4 h5
        simp [head235, c235b0, w1, h1, h2, h3, h4, h5, hg, a2, at1, at2, at3, at4, at5, at6, at7, law226, q, takeRows, p1, wantsV, wantsH]
        rw [hY' _ (by simp [head235, w1, readWant, unstar, q, wantsV, wantsH])]
        simp [readWant, unstar, hv, q]
  · rw [List.length_dropLast]; unfold big; omega
  · simp [readLines]

theorem law235 (s : T) (hs : s.size ≤ 1048576) : F 235 [.str s] [] = some (.tup [.agg ((readT s).1.c .own), .bool (readT s).2], []) := by
  refine F_run fn235 rfl ?_
  obtain ⟨l0, ls, hl⟩ := cutT_ne s 10
  obtain ⟨w, wr, hw⟩ := cutT_ne l0 32
  have h0 : atW (cutT s 10) 0 = l0 := by rw [hl]; rfl
  have h1 : atW (cutT l0 32) 0 = w := by rw [hw]; rfl
  have a1 := law194 s 10 10 rfl hs
  have a2 := law194 l0 32 32 rfl (Nat.le_trans (cutT_mem (by rw [hl]; exact List.mem_cons_self)) hs)
  rw [hl] at a1
  rw [hw] at a2
  have at1 : F 239 [.sl .bor 1 ([.str w] :: wr.map fun x => [.str x]), .int .i64 1] [] = some (.str (atW (w :: wr) 1), []) := law239 (w :: wr) 1
  have at2 : F 239 [.sl .bor 1 ([.str w] :: wr.map fun x => [.str x]), .int .i64 2] [] = some (.str (atW (w :: wr) 2), []) := law239 (w :: wr) 2
  have at3 : F 239 [.sl .bor 1 ([.str w] :: wr.map fun x => [.str x]), .int .i64 3] [] = some (.str (atW (w :: wr) 3), []) := law239 (w :: wr) 3
  have at4 : F 239 [.sl .bor 1 ([.str w] :: wr.map fun x => [.str x]), .int .i64 4] [] = some (.str (atW (w :: wr) 4), []) := law239 (w :: wr) 4
  have hR : readT s = readOut s (readWords w (w :: wr) ls) := by simp only [readT, readOut, readS, h0, h1]; simp only [hl, hw, List.tail_cons]
  obtain ⟨R, hR2⟩ : ∃ R, R = readT s := ⟨_, rfl⟩
  rw [← hR2]
  rw [hR] at hR2
  clear hR
  cases k1 : sEq w ⟨#[116, 111, 108, 100]⟩
  · have hA : sEq w ⟨#[97, 115, 107, 101, 100]⟩ = false → sEq w ⟨#[103, 105, 118, 101, 110]⟩ = false → sEq w ⟨#[98, 97, 99, 107]⟩ = false → isAsk w = false := fun a b c => by simp [isAsk, a, b, c]
    have hB : (sEq w ⟨#[97, 115, 107, 101, 100]⟩ = true ∨ sEq w ⟨#[103, 105, 118, 101, 110]⟩ = true ∨ sEq w ⟨#[98, 97, 99, 107]⟩ = true) → isAsk w = true := fun a => by simp [isAsk, a]
    cases k2 : sEq w ⟨#[97, 115, 107, 101, 100]⟩ <;> cases k3 : sEq w ⟨#[103, 105, 118, 101, 110]⟩ <;> cases k4 : sEq w ⟨#[98, 97, 99, 107]⟩
    · have hk := hA k2 k3 k4
      cases k5 : sEq w ⟨#[103, 111, 116, 98, 97, 99, 107]⟩
      · cases k6 : sEq w ⟨#[104, 101, 114, 101]⟩
        · simp [c235_cut, a1, a2, at1, at2, at3, at4, law226, k1, k2, k3, k4, k5, k6]
          exact tail235 s ⟨0, atW (w :: wr) 1, 0, [], ⟨#[]⟩, ⟨#[]⟩, 0⟩ ⟨Nat.zero_le _⟩ _ _ 832 _ (by simp) (by simp) (by simp) (by simp [noParcel, Parcel.c]) (by simp) (.inl ⟨rfl, rfl⟩) (by simp; rfl) rfl R (by rw [hR2]; simp [readOut, readWords, k1, hk, k5, k6])
        · simp [c235_cut, a1, a2, at1, at2, at3, at4, law226, k1, k2, k3, k4, k5, k6]
          exact tail235 s ⟨6, atW (w :: wr) 1, num7 (atW (w :: wr) 2), [], ⟨#[]⟩, ⟨#[]⟩, 0⟩ ⟨Nat.zero_le _⟩ _ _ 832 _ (by simp) (by simp) (by simp) (by simp [noParcel, Parcel.c]) (by simp) (.inl ⟨rfl, rfl⟩) (by simp; rfl) rfl R (by rw [hR2]; simp [readOut, readWords, k1, hk, k5, k6])
      · simp [c235_cut, a1, a2, at1, at2, at3, at4, law226, k1, k2, k3, k4, k5]
        exact tail235 s ⟨5, atW (w :: wr) 1, 0, [], atW (w :: wr) 2, ⟨#[]⟩, num7 (atW (w :: wr) 3)⟩ ⟨Nat.zero_le _⟩ _ _ 832 _ (by simp) (by simp) (by simp) (by simp [noParcel, Parcel.c]) (by simp) (.inl ⟨rfl, rfl⟩) (by simp; rfl) rfl R (by rw [hR2]; simp [readOut, readWords, k1, hk, k5])
    all_goals
      have hk : isAsk w = true := hB (by simp [k2, k3, k4])
      simp [c235_cut, a1, a2, at1, at2, at3, at4, law226, k1, k2, k3, k4]
      exact tail235 s ⟨readKind w, atW (w :: wr) 1, 0, [], atW (w :: wr) 2, atW (w :: wr) 3, num7 (atW (w :: wr) 4)⟩ ⟨Nat.zero_le _⟩ _ _ 832 (.sl .own 7 []) (by simp) (by simp) (by simp) (by simp [noParcel, Parcel.c]) (by simp [readKind, k3, k4]) (.inl ⟨rfl, rfl⟩) (by simp; rfl) rfl R (by rw [hR2]; simp [readOut, readWords, k1, hk])
  · simp [c235_cut, a1, a2, at1, at2, at3, at4, law226, k1]
    refine (loop235 s l0 ls (atW (w :: wr) 1) (num7 (atW (w :: wr) 2)) hs hl _ ?_).trans ?_
    · simp [head235, wantsV, wantsH]
    · rw [hR2]
      simp [readWords, k1]
      done
end Go.Proofs.YtaikddhcplfpmaaGreatDoor

namespace Go.Proofs.YtaikddhcplfpmaaGreatDoor
open Go
set_option linter.unusedSimpArgs false
set_option maxRecDepth 100000
def tl207 : CCode := (.seq (.seq (.region [
    ⟨some 189, .load (.tmp 7) 7 true .plain, none⟩,
    ⟨some 190, .call 218 [false] [.tmp 189], none⟩,
    ⟨some 191, .mov (.tmp 0), none⟩,
    ⟨some 192, .bin .neq (.tmp 190) (.tmp 191), none⟩] [2, 7, 192])
  (.cond (.tmp 192)
    (.seq (.region [
      ⟨some 193, .build [.int .i64 0, .str ⟨#[]⟩, .int .i64 0, .sl .own 7 [], .str ⟨#[]⟩, .str ⟨#[]⟩, .int .i64 0] [], none⟩,
      ⟨none, .store (.tmp 2) (.tmp 193) 7, none⟩,
      ⟨some 3, .mov (.const (.bool false)), none⟩] [2, 3])
    .ret)
    .skip))
  (.seq (.region [
    ⟨some 194, .load (.tmp 7) 7 true .plain, none⟩,
    ⟨none, .store (.tmp 2) (.tmp 194) 7, none⟩,
    ⟨some 3, .mov (.const (.bool true)), none⟩] [2, 3])
  .ret))
theorem c207_cut : c207 = ⟨195, [.cell 2 7 true, .tmp 3],
  (.seq (.region [
    ⟨some 2, .alloc [.int .i64 0, .str ⟨#[]⟩, .int .i64 0, .sl .own 7 [], .str ⟨#[]⟩, .str ⟨#[]⟩, .int .i64 0], none⟩,
    ⟨some 3, .mov (.const (.bool false)), none⟩] [0, 2])
  (.seq (.seq (.region [
    ⟨some 12, .mov (.tmp 0), none⟩,
    ⟨some 13, .call 222 [false, false] [.tmp 12, .const (.str ⟨#[10]⟩)], none⟩,
    ⟨some 14, .un .not (.tmp 13), none⟩] [0, 2, 14])
  (.cond (.tmp 14)
    (.seq (.region [
      ⟨some 15, .build [.int .i64 0, .str ⟨#[]⟩, .int .i64 0, .sl .own 7 [], .str ⟨#[]⟩, .str ⟨#[]⟩, .int .i64 0] [], none⟩,
      ⟨none, .store (.tmp 2) (.tmp 15) 7, none⟩,
      ⟨some 3, .mov (.const (.bool false)), none⟩] [2, 3])
    .ret)
    .skip))
  (.seq (.region [
    ⟨some 16, .mov (.tmp 0), none⟩,
    ⟨some 17, .mov (.tmp 0), none⟩,
    ⟨some 18, .len true (.tmp 17), none⟩,
    ⟨some 19, .bin .sub (.tmp 18) (.const (.int .i64 1)), none⟩,
    ⟨some 20, .sslice (.tmp 16) none (some (.tmp 19)), none⟩,
    ⟨some 21, .call 220 [false, false] [.tmp 20, .const (.str ⟨#[10]⟩)], none⟩,
    ⟨some 4, .mov (.tmp 21), none⟩] [0, 2, 4])
  (.seq (.region [
    ⟨some 22, .mov (.tmp 4), none⟩,
    ⟨some 23, .iaddr 1 (.tmp 22) (.const (.int .i64 0)), none⟩,
    ⟨some 24, .load (.tmp 23) 1 false .plain, none⟩,
    ⟨some 25, .call 220 [false, false] [.tmp 24, .const (.str ⟨#[32]⟩)], none⟩,
    ⟨some 5, .mov (.tmp 25), none⟩] [0, 2, 4, 5])
  (.seq (.region [
    ⟨some 6, .mov (.const (.fn 221)), none⟩] [0, 2, 4, 5, 6])
  (.seq (.region [
    ⟨some 7, .alloc [.int .i64 0, .str ⟨#[]⟩, .int .i64 0, .sl .own 7 [], .str ⟨#[]⟩, .str ⟨#[]⟩, .int .i64 0], none⟩] [0, 2, 4, 5, 6, 7])
  (.seq (.block 0
    (.seq (.region [
      ⟨some 27, .mov (.tmp 5), none⟩,
      ⟨some 28, .iaddr 1 (.tmp 27) (.const (.int .i64 0)), none⟩,
      ⟨some 29, .load (.tmp 28) 1 false .plain, none⟩,
      ⟨some 30, .bin .eql (.tmp 29) (.const (.str ⟨#[116, 111, 108, 100]⟩)), none⟩,
      ⟨some 31, .mov (.tmp 30), none⟩,
      ⟨some 32, .mov (.tmp 5), some (31, true)⟩,
      ⟨some 33, .len false (.tmp 32), some (31, true)⟩,
      ⟨some 34, .bin .eql (.tmp 33) (.const (.int .i64 3)), some (31, true)⟩,
      ⟨some 35, .pick (.tmp 31) (.tmp 34) (.const (.bool false)), none⟩,
      ⟨some 26, .mov (.tmp 35), none⟩] [0, 2, 4, 5, 6, 7, 26])
    (.cond (.tmp 26)
      (.seq (.loud [
        ⟨some 36, .mov (.tmp 5), none⟩,
        ⟨some 37, .iaddr 1 (.tmp 36) (.const (.int .i64 1)), none⟩,
        ⟨some 38, .load (.tmp 37) 1 false .plain, none⟩,
        ⟨some 39, .mov (.tmp 6), none⟩,
        ⟨some 40, .mov (.tmp 5), none⟩,
        ⟨some 41, .iaddr 1 (.tmp 40) (.const (.int .i64 2)), none⟩,
        ⟨some 42, .load (.tmp 41) 1 false .plain, none⟩,
        ⟨some 43, .callf (.tmp 39) [false] [.tmp 42], none⟩,
        ⟨some 44, .build [.int .i64 0, .str ⟨#[]⟩, .int .i64 0, .sl .own 7 [], .str ⟨#[]⟩, .str ⟨#[]⟩, .int .i64 0] [(0, 1, .const (.int .i64 1)), (1, 1, .tmp 38), (2, 1, .tmp 43)], none⟩,
        ⟨none, .store (.tmp 7) (.tmp 44) 7, none⟩] [0, 1, 3, 0, 0, 16, 48, 120, 255, 511] [0, 2, 4, 6, 7])
      (.seq (.region [
        ⟨some 45, .mov (.tmp 4), none⟩,
        ⟨some 46, .slice 1 (.tmp 45) (some (.const (.int .i64 1))) none, none⟩,
        ⟨some 47, .len false (.tmp 46), none⟩,
        ⟨some 48, .mov (.const (.int .i64 0)), none⟩] [0, 2, 6, 7, 46, 47, 48])
      (.block 1
        (.loop [0, 2, 6, 7, 46, 47, 48] c207b0))))
      (.seq (.region [
        ⟨some 106, .mov (.tmp 5), none⟩,
        ⟨some 107, .len false (.tmp 106), none⟩,
        ⟨some 108, .bin .eql (.tmp 107) (.const (.int .i64 5)), none⟩,
        ⟨some 109, .mov (.tmp 108), none⟩,
        ⟨some 110, .mov (.tmp 5), some (109, true)⟩,
        ⟨some 111, .iaddr 1 (.tmp 110) (.const (.int .i64 0)), some (109, true)⟩,
        ⟨some 112, .load (.tmp 111) 1 false .plain, some (109, true)⟩,
        ⟨some 113, .bin .eql (.tmp 112) (.const (.str ⟨#[97, 115, 107, 101, 100]⟩)), some (109, true)⟩,
        ⟨some 114, .mov (.tmp 113), some (109, true)⟩,
        ⟨some 115, .mov (.tmp 5), some (114, false)⟩,
        ⟨some 116, .iaddr 1 (.tmp 115) (.const (.int .i64 0)), some (114, false)⟩,
        ⟨some 117, .load (.tmp 116) 1 false .plain, some (114, false)⟩,
        ⟨some 118, .bin .eql (.tmp 117) (.const (.str ⟨#[103, 105, 118, 101, 110]⟩)), some (114, false)⟩,
        ⟨some 119, .pick (.tmp 114) (.const (.bool true)) (.tmp 118), some (109, true)⟩,
        ⟨some 120, .mov (.tmp 119), some (109, true)⟩,
        ⟨some 121, .mov (.tmp 5), some (120, false)⟩,
        ⟨some 122, .iaddr 1 (.tmp 121) (.const (.int .i64 0)), some (120, false)⟩,
        ⟨some 123, .load (.tmp 122) 1 false .plain, some (120, false)⟩,
        ⟨some 124, .bin .eql (.tmp 123) (.const (.str ⟨#[98, 97, 99, 107]⟩)), some (120, false)⟩,
        ⟨some 125, .pick (.tmp 120) (.const (.bool true)) (.tmp 124), some (109, true)⟩,
        ⟨some 126, .pick (.tmp 109) (.tmp 125) (.const (.bool false)), none⟩,
        ⟨some 105, .mov (.tmp 126), none⟩] [0, 2, 5, 6, 7, 105])
      (.cond (.tmp 105)
        (.loud [
          ⟨some 127, .mkmap false, none⟩,
          ⟨none, .mapset false (.tmp 127) (.const (.str ⟨#[97, 115, 107, 101, 100]⟩)) (.const (.int .i64 2)), none⟩,
          ⟨none, .mapset false (.tmp 127) (.const (.str ⟨#[103, 105, 118, 101, 110]⟩)) (.const (.int .i64 3)), none⟩,
          ⟨none, .mapset false (.tmp 127) (.const (.str ⟨#[98, 97, 99, 107]⟩)) (.const (.int .i64 4)), none⟩,
          ⟨some 128, .mov (.tmp 127), none⟩,
          ⟨some 129, .mov (.tmp 5), none⟩,
          ⟨some 130, .iaddr 1 (.tmp 129) (.const (.int .i64 0)), none⟩,
          ⟨some 131, .load (.tmp 130) 1 false .plain, none⟩,
          ⟨some 132, .lookup false (.int .i64 0) (.tmp 128) (.tmp 131), none⟩,
          ⟨some 133, .mov (.tmp 5), none⟩,
          ⟨some 134, .iaddr 1 (.tmp 133) (.const (.int .i64 1)), none⟩,
          ⟨some 135, .load (.tmp 134) 1 false .plain, none⟩,
          ⟨some 136, .mov (.tmp 5), none⟩,
          ⟨some 137, .iaddr 1 (.tmp 136) (.const (.int .i64 2)), none⟩,
          ⟨some 138, .load (.tmp 137) 1 false .plain, none⟩,
          ⟨some 139, .mov (.tmp 5), none⟩,
          ⟨some 140, .iaddr 1 (.tmp 139) (.const (.int .i64 3)), none⟩,
          ⟨some 141, .load (.tmp 140) 1 false .plain, none⟩,
          ⟨some 142, .mov (.tmp 6), none⟩,
          ⟨some 143, .mov (.tmp 5), none⟩,
          ⟨some 144, .iaddr 1 (.tmp 143) (.const (.int .i64 4)), none⟩,
          ⟨some 145, .load (.tmp 144) 1 false .plain, none⟩,
          ⟨some 146, .callf (.tmp 142) [false] [.tmp 145], none⟩,
          ⟨some 147, .build [.int .i64 0, .str ⟨#[]⟩, .int .i64 0, .sl .own 7 [], .str ⟨#[]⟩, .str ⟨#[]⟩, .int .i64 0] [(0, 1, .tmp 132), (1, 1, .tmp 135), (4, 1, .tmp 138), (5, 1, .tmp 141), (6, 1, .tmp 146)], none⟩,
          ⟨none, .store (.tmp 7) (.tmp 147) 7, none⟩] [0, 1, 1, 1, 15, 0, 32, 96, 255, 0, 512, 1536, 0, 4096, 12288, 0, 32768, 98304, 0, 0, 524288, 1572864, 3932160, 8388607, 16777215] [0, 2, 7])
        (.seq (.region [
          ⟨some 149, .mov (.tmp 5), none⟩,
          ⟨some 150, .iaddr 1 (.tmp 149) (.const (.int .i64 0)), none⟩,
          ⟨some 151, .load (.tmp 150) 1 false .plain, none⟩,
          ⟨some 152, .bin .eql (.tmp 151) (.const (.str ⟨#[103, 111, 116, 98, 97, 99, 107]⟩)), none⟩,
          ⟨some 153, .mov (.tmp 152), none⟩,
          ⟨some 154, .mov (.tmp 5), some (153, true)⟩,
          ⟨some 155, .len false (.tmp 154), some (153, true)⟩,
          ⟨some 156, .bin .eql (.tmp 155) (.const (.int .i64 4)), some (153, true)⟩,
          ⟨some 157, .pick (.tmp 153) (.tmp 156) (.const (.bool false)), none⟩,
          ⟨some 148, .mov (.tmp 157), none⟩] [0, 2, 5, 6, 7, 148])
        (.cond (.tmp 148)
          (.loud [
            ⟨some 158, .mov (.tmp 5), none⟩,
            ⟨some 159, .iaddr 1 (.tmp 158) (.const (.int .i64 1)), none⟩,
            ⟨some 160, .load (.tmp 159) 1 false .plain, none⟩,
            ⟨some 161, .mov (.tmp 5), none⟩,
            ⟨some 162, .iaddr 1 (.tmp 161) (.const (.int .i64 2)), none⟩,
            ⟨some 163, .load (.tmp 162) 1 false .plain, none⟩,
            ⟨some 164, .mov (.tmp 6), none⟩,
            ⟨some 165, .mov (.tmp 5), none⟩,
            ⟨some 166, .iaddr 1 (.tmp 165) (.const (.int .i64 3)), none⟩,
            ⟨some 167, .load (.tmp 166) 1 false .plain, none⟩,
            ⟨some 168, .callf (.tmp 164) [false] [.tmp 167], none⟩,
            ⟨some 169, .build [.int .i64 0, .str ⟨#[]⟩, .int .i64 0, .sl .own 7 [], .str ⟨#[]⟩, .str ⟨#[]⟩, .int .i64 0] [(0, 1, .const (.int .i64 5)), (1, 1, .tmp 160), (4, 1, .tmp 163), (6, 1, .tmp 168)], none⟩,
            ⟨none, .store (.tmp 7) (.tmp 169) 7, none⟩] [0, 1, 3, 0, 8, 24, 0, 0, 128, 384, 960, 2047, 4095] [0, 2, 7])
          (.seq (.region [
            ⟨some 171, .mov (.tmp 5), none⟩,
            ⟨some 172, .iaddr 1 (.tmp 171) (.const (.int .i64 0)), none⟩,
            ⟨some 173, .load (.tmp 172) 1 false .plain, none⟩,
            ⟨some 174, .bin .eql (.tmp 173) (.const (.str ⟨#[104, 101, 114, 101]⟩)), none⟩,
            ⟨some 175, .mov (.tmp 174), none⟩,
            ⟨some 176, .mov (.tmp 5), some (175, true)⟩,
            ⟨some 177, .len false (.tmp 176), some (175, true)⟩,
            ⟨some 178, .bin .eql (.tmp 177) (.const (.int .i64 3)), some (175, true)⟩,
            ⟨some 179, .pick (.tmp 175) (.tmp 178) (.const (.bool false)), none⟩,
            ⟨some 170, .mov (.tmp 179), none⟩] [0, 2, 5, 6, 7, 170])
          (.cond (.tmp 170)
            (.loud [
              ⟨some 180, .mov (.tmp 5), none⟩,
              ⟨some 181, .iaddr 1 (.tmp 180) (.const (.int .i64 1)), none⟩,
              ⟨some 182, .load (.tmp 181) 1 false .plain, none⟩,
              ⟨some 183, .mov (.tmp 6), none⟩,
              ⟨some 184, .mov (.tmp 5), none⟩,
              ⟨some 185, .iaddr 1 (.tmp 184) (.const (.int .i64 2)), none⟩,
              ⟨some 186, .load (.tmp 185) 1 false .plain, none⟩,
              ⟨some 187, .callf (.tmp 183) [false] [.tmp 186], none⟩,
              ⟨some 188, .build [.int .i64 0, .str ⟨#[]⟩, .int .i64 0, .sl .own 7 [], .str ⟨#[]⟩, .str ⟨#[]⟩, .int .i64 0] [(0, 1, .const (.int .i64 6)), (1, 1, .tmp 182), (2, 1, .tmp 187)], none⟩,
              ⟨none, .store (.tmp 7) (.tmp 188) 7, none⟩] [0, 1, 3, 0, 0, 16, 48, 120, 255, 511] [0, 2, 7])
            .skip)))))))))
  tl207)))))))⟩ := rfl

theorem index_cons (x b : UInt8) (r : List UInt8) : Lib.index (x :: r) [b] = if x = b then 0 else if Lib.index r [b] = -1 then -1 else Lib.index r [b] + 1 := by
  rw [Lib.index]
  have e : [b].isPrefixOf (x :: r) = (b == x) := by rw [List.isPrefixOf_cons_cons]; rw [List.isPrefixOf_nil_left, Bool.and_true]
  rw [e]
  by_cases h : x = b
  · rw [if_pos (beq_iff_eq.2 h.symm), if_pos h]
  · rw [if_neg (fun k => h (beq_iff_eq.1 k).symm), if_neg h]
    by_cases k : Lib.index r [b] = -1
    · rw [if_pos (beq_iff_eq.2 k), if_pos k]
    · rw [if_neg (fun q => k (beq_iff_eq.1 q)), if_neg k]
theorem notmem {b x : UInt8} {r : List UInt8} (h : ¬ b ∈ x :: r) : ¬ x = b ∧ ¬ b ∈ r := ⟨fun e => h (by rw [e]; exact List.mem_cons_self), fun k => h (List.mem_cons_of_mem _ k)⟩
theorem index_no {b : UInt8} : ∀ {l : List UInt8}, ¬ b ∈ l → Lib.index l [b] = -1
  | [], _ => rfl
  | x :: r, h => by
    rw [index_cons, if_neg (notmem h).1, index_no (notmem h).2]
    rfl
theorem index_at {b : UInt8} : ∀ {u v : List UInt8}, ¬ b ∈ u → Lib.index (u ++ b :: v) [b] = u.length
  | [], v, _ => by rw [List.nil_append, index_cons, if_pos rfl]; rfl
  | x :: u, v, h => by
    rw [List.cons_append, index_cons, if_neg (notmem h).1, index_at (notmem h).2, if_neg (by omega)]
    rfl
theorem cutA_no {b : UInt8} : ∀ {l : List UInt8} (pre : List UInt8), ¬ b ∈ l → cutA b pre l = [pre ++ l]
  | [], pre, _ => by simp [cutA]
  | x :: r, pre, h => by
    rw [cutA, if_neg (notmem h).1, cutA_no _ (notmem h).2]
    simp
theorem cutA_at {b : UInt8} : ∀ {u v : List UInt8} (pre : List UInt8), ¬ b ∈ u → cutA b pre (u ++ b :: v) = (pre ++ u) :: cutA b [] v
  | [], v, pre, _ => by simp [cutA]
  | x :: u, v, pre, h => by
    rw [List.cons_append, cutA, if_neg (notmem h).1, cutA_at _ (notmem h).2]
    simp
theorem splitK_cut (b : UInt8) : ∀ (n : Nat) (l : List UInt8), l.length ≤ n → Lib.splitK [b] 0 (Lib.count l [b]) l = cutA b [] l
  | n, l, hn => by
    by_cases h : b ∈ l
    · obtain ⟨u, v, rfl, hu⟩ := List.eq_append_cons_of_mem h
      match n with
      | 0 => simp at hn
      | n + 1 =>
        have hi := index_at (v := v) hu
        have hd : (u ++ b :: v).drop (u.length + [b].length) = v := by
          rw [show u ++ b :: v = (u ++ [b]) ++ v by simp, List.drop_left' (by simp)]
        have hc := Lib.count_hit (by simp) hi
        rw [hd] at hc
        rw [hc, Nat.add_comm, Lib.splitK, hi, if_neg (by simp), cutA_at _ hu]
        rw [show ((u.length : Int).toNat + [b].length) = u.length + [b].length from rfl, hd, splitK_cut b n v (by simp at hn; omega)]
        simp
    · rw [Lib.count_miss (index_no h), cutA_no _ h]
      rfl
theorem splitT_cut (s : T) (b : UInt8) : splitT s ⟨#[b]⟩ = cutT s b := by
  have h := Lib.splitB_data ⟨#[b]⟩ 0 (Lib.countB s ⟨#[b]⟩) s
  have h2 := splitK_cut b _ s.data.toList (Nat.le_refl _)
  have h3 : (splitT s ⟨#[b]⟩).map (·.data.toList) = cutA b [] s.data.toList := h.trans h2
  rw [cutT, ← h3, List.map_map]
  have e : (mkT ∘ fun x : ByteArray => x.data.toList) = id := by
    funext x
    rfl
  rw [e, List.map_id]

/-- A line's want, as the program reads it. -/
def wantI (x : List T) : Want := ⟨atW x 1, numT (atW x 2), unstar (atW x 3), numT (atW x 4), numT (atW x 5), numT (atW x 6), numT (atW x 7)⟩
def lineOk (x : List T) : Bool := x.length == 8 && sEq (atW x 0) ⟨#[119, 97, 110, 116]⟩
def linesI (acc : List Want) : List T → Option (List Want)
  | [] => some acc
  | l :: r => if lineOk (cutT l 32) then linesI (acc ++ [wantI (cutT l 32)]) r else none
def wordsI (w : T) (ws ls : List T) : Option Parcel :=
  if sEq w ⟨#[116, 111, 108, 100]⟩ && ws.length == 3 then (match linesI [] ls with
    | some wants => some ⟨1, atW ws 1, numT (atW ws 2), wants, ⟨#[]⟩, ⟨#[]⟩, 0⟩
    | none => none)
  else if ws.length == 5 && isAsk w then some ⟨readKind w, atW ws 1, 0, [], atW ws 2, atW ws 3, numT (atW ws 4)⟩
  else if sEq w ⟨#[103, 111, 116, 98, 97, 99, 107]⟩ && ws.length == 4 then some ⟨5, atW ws 1, 0, [], atW ws 2, ⟨#[]⟩, numT (atW ws 3)⟩
  else if sEq w ⟨#[104, 101, 114, 101]⟩ && ws.length == 3 then some ⟨6, atW ws 1, numT (atW ws 2), [], ⟨#[]⟩, ⟨#[]⟩, 0⟩
  else some noParcel
def outI (s : T) : Option Parcel → Parcel × Bool
  | some p => if sEq (parcelForm p) s then (p, true) else (noParcel, false)
  | none => (noParcel, false)
def readI (s : T) : Parcel × Bool :=
  if Lib.hasSuffix s.data.toList [10] then outI s (wordsI (atW (cutT (atW (cutT (s.extract 0 (s.size - 1)) 10) 0) 32) 0) (cutT (atW (cutT (s.extract 0 (s.size - 1)) 10) 0) 32) (cutT (s.extract 0 (s.size - 1)) 10).tail) else (noParcel, false)

theorem tail207 (s : T) (p : Parcel) (hs : p.small) (st : St) (n b : Nat) (W : AV) (s0 : st.slots 0 = .str s) (s2 : st.slots 2 = .ptr 0 0 0) (s7 : st.slots 7 = .ptr b 0 0)
    (h0 : st.heap 0 = some (.box (noParcel.c .own))) (hb : st.heap b = some (.box [.int .i64 p.kind, .str p.berth, .int .i64 p.seen, W, .str p.hold, .str p.copy, .int .i64 p.at_])) (hW : Held st.heap b p.wants W) (hn : st.next = n + 1) (hz : st.base = 0) (r : Parcel × Bool)
    (hr : r = outI s (some p)) :
    fin [.cell 2 7 true, .tmp 3] 0 (X F [.code tl207] (.normal, st)) = some (.tup [.agg (r.1.c .own), .bool r.2], []) := by
  have a := law218 p hs
  simp only [Parcel.c] at a
  simp only [Parcel.c, noParcel, List.map_nil] at h0
  subst hr
  unfold outI
  rcases hW with ⟨rfl, hw⟩ | ⟨c, rfl, c1, c2, hc⟩
  · rw [hw] at a
    simp only [List.map_nil] at a
    cases q : sEq (parcelForm p) s
    · simp [tl207, s0, s2, s7, h0, hb, hn, hz, a, q, noParcel, Parcel.c]
    · simp [tl207, s0, s2, s7, h0, hb, hn, hz, a, q, Parcel.c, hw]
  · cases q : sEq (parcelForm p) s
    · simp [tl207, s0, s2, s7, h0, hb, hn, hz, a, hc, c1, c2, q, noParcel, Parcel.c]
    · simp [tl207, s0, s2, s7, h0, hb, hn, hz, a, hc, c1, c2, q, Parcel.c]

theorem law220c (s : T) (b : UInt8) (hs : s.size ≤ 1048576) : F 220 [.str s, .str ⟨#[b]⟩] [] = some (.sl .own 1 ((cutT s b).map fun x => [.str x]), []) := by
  rw [law220 s ⟨#[b]⟩ (by omega) (by show 1 ≤ 1; omega), splitT_cut]

def partI (b : T) (n : Int) (ws : List Want) : Parcel := ⟨1, b, n, ws, ⟨#[]⟩, ⟨#[]⟩, 0⟩
def resR (r : Parcel × Bool) : AV × List (Option AO) := (.tup [.agg (r.1.c .own), .bool r.2], [])
def head207 (s l0 : T) (ls : List T) (b : T) (n : Int) (j : Nat) (acc : List Want) : St := hd [(0, .str s), (2, .ptr 0 0 0), (6, .fn 221), (7, .ptr 1 0 0), (46, .view 2 1 ls.length), (47, .int .i64 ls.length), (48, .int .i64 j)]
  ([.box [.int .i64 0, .str ⟨#[]⟩, .int .i64 0, .sl .own 7 [], .str ⟨#[]⟩, .str ⟨#[]⟩, .int .i64 0], .box [.int .i64 1, .str b, .int .i64 n, wantsV acc, .str ⟨#[]⟩, .str ⟨#[]⟩, .int .i64 0], .arr 1 ((l0 :: ls).map fun x => [.str x])] ++ wantsH acc) 0

theorem loop207 (s l0 : T) (ls : List T) (b : T) (n : Int) (hls : ∀ x ∈ ls, x.size ≤ 1048576) (hlen : ls.length ≤ 1048576) (st : St) (hst : st.norm [0, 2, 6, 7, 46, 47, 48] = head207 s l0 ls b n 0 []) :
    fin [.cell 2 7 true, .tmp 3] 0 (X F [.code (.loop [0, 2, 6, 7, 46, 47, 48] c207b0), .blk 1, .blk 0, .code tl207] (.normal, st)) = some (resR (outI s ((linesI [] ls).map (partI b n)))) := by
  refine (loop_list ls (fun j acc => head207 s l0 ls b n j acc) (fun j (acc : List Want) => acc.length ≤ j) (fun j r acc => resR (outI s ((linesI acc r).map (partI b n)))) (fun acc Y hinv => ?_) (fun j l r acc Y ha hj hr hinv hY => ?_) [] hst (Nat.le_refl _) ?_).trans rfl
  · have ht := tail207 s (partI b n acc) ⟨by show acc.length ≤ _; omega⟩
    simp only [linesI, Option.map_some]
    cases acc with
    | nil =>
      simp [head207, c207b0, wantsV, wantsH]
      exact ht _ _ 1 (.sl .own 7 []) (by simp) (by simp) (by simp) (by simp [noParcel, Parcel.c]) (by simp [partI]) (.inl ⟨rfl, rfl⟩) (by simp; rfl) rfl _ rfl
    | cons a acc =>
      simp [head207, c207b0, wantsV, wantsH]
      exact ht _ _ 1 (.ref 3) (by simp) (by simp) (by simp) (by simp [noParcel, Parcel.c]) (by simp [partI]) (.inr ⟨3, rfl, by simp, by simp, by simp [partI]⟩) (by simp; rfl) rfl _ rfl
  · have w1 : IntKind.i64.wrap ((j : Int) + 1) = (j : Int) + 1 := i64w (by omega) (by omega)
    have h1 : (j : Int) < ls.length := by omega
    have h4 : (acc.length + 1) * 72 ≤ 140737488355328 := by omega
    have h5 : acc.length + 1 ≤ 140737488355328 := by omega
    obtain ⟨_, hg⟩ := List.getElem?_eq_some_iff.1 ha
    have hsl := hls l (List.mem_of_getElem? ha)
    obtain ⟨v, vr, hv⟩ := cutT_ne l 32
    have a2 := law220c l 32 hsl
    rw [hv] at a2
    have hvs : ∀ x ∈ v :: vr, x.size ≤ 281474976710656 := fun x hx => by
      have := cutT_mem (s := l) (b := 32) (x := x) (by rw [hv]; exact hx)
      omega
    simp only [List.map_cons] at a2
    have h6 : 1 + ls.length ≤ ls.length + 1 := by omega
    have h7 : 1 + j = j + 1 := Nat.add_comm _ _
    by_cases q8 : vr.length = 7
    · obtain ⟨y1, y2, y3, y4, y5, y6, y7, rfl⟩ : ∃ y1 y2 y3 y4 y5 y6 y7, vr = [y1, y2, y3, y4, y5, y6, y7] := by
        match vr, q8 with
        | [y1, y2, y3, y4, y5, y6, y7], _ => exact ⟨y1, y2, y3, y4, y5, y6, y7, rfl⟩
      have n2 := law221 y2 (hvs y2 (by simp))
      have n4 := law221 y4 (hvs y4 (by simp))
      have n5 := law221 y5 (hvs y5 (by simp))
      have n6 := law221 y6 (hvs y6 (by simp))
      have n7 := law221 y7 (hvs y7 (by simp))
      have p1 : ∀ (a : T) (b : Int) (c : T) (d e f g : Int), rowsPlain [[AV.str a, .int .i64 b, .str c, .int .i64 d, .int .i64 e, .int .i64 f, .int .i64 g]] = true := fun _ _ _ _ _ _ _ => rfl
      cases q0 : sEq v ⟨#[119, 97, 110, 116]⟩
      · have hno : lineOk (cutT l 32) = false := by rw [hv]; simp [lineOk, atW, q0]
        rw [linesI, hno]
        cases acc with
        | nil =>
          simp [head207, c207b0, h1, hj, hg, h6, h7, a2, q0, wantsV, wantsH, outI, resR, noParcel, Parcel.c]
        | cons a acc =>
          simp [head207, c207b0, h1, hj, hg, h6, h7, a2, q0, wantsV, wantsH, outI, resR, noParcel, Parcel.c]
      · have hyes : lineOk (cutT l 32) = true := by rw [hv]; simp [lineOk, atW, q0]
        have hY' := fun s' h => hY (acc ++ [wantI (cutT l 32)]) s' (by simp only [List.length_append, List.length_singleton]; omega) h
        rw [linesI, hyes, if_pos rfl]
        rw [hv] at hY' ⊢
        cases q : sEq y3 ⟨#[42]⟩
        · cases acc with
          | nil =>
            simp [head207, c207b0, h1, hj, hg, h6, h7, a2, q0, q, n2, n4, n5, n6, n7, takeRows, p1, wantsV, wantsH]
            rw [hY' _ (by simp [head207, w1, wantI, atW, unstar, q, wantsV, wantsH])]
            rfl
          | cons a acc =>
            simp only [List.length_cons] at h4 h5
            simp [head207, c207b0, h1, hj, hg, h6, h7, a2, q0, q, n2, n4, n5, n6, n7, takeRows, p1, wantsV, wantsH, h4, h5]
            rw [hY' _ (by simp [head207, w1, wantI, atW, unstar, q, wantsV, wantsH])]
            rfl
        · cases acc with
          | nil =>
            simp [head207, c207b0, h1, hj, hg, h6, h7, a2, q0, q, n2, n4, n5, n6, n7, takeRows, p1, wantsV, wantsH]
            rw [hY' _ (by simp [head207, w1, wantI, atW, unstar, q, wantsV, wantsH])]
            rfl
          | cons a acc =>
            simp only [List.length_cons] at h4 h5
            simp [head207, c207b0, h1, hj, hg, h6, h7, a2, q0, q, n2, n4, n5, n6, n7, takeRows, p1, wantsV, wantsH, h4, h5]
            rw [hY' _ (by simp [head207, w1, wantI, atW, unstar, q, wantsV, wantsH])]
            rfl
    · have q9 : ¬ (vr.length : Int) + 1 = 8 := by omega
      have hno : lineOk (cutT l 32) = false := by rw [hv]; simp [lineOk, q8]
      rw [linesI, hno]
      cases acc with
      | nil =>
        simp [head207, c207b0, h1, hj, hg, h6, h7, a2, q9, wantsV, wantsH, outI, resR, noParcel, Parcel.c]
      | cons a acc =>
        simp [head207, c207b0, h1, hj, hg, h6, h7, a2, q9, wantsV, wantsH, outI, resR, noParcel, Parcel.c]
  · unfold big; omega

theorem suffix_last {l : List UInt8} (h : Lib.hasSuffix l [10] = true) : 1 ≤ l.length := by
  cases l with
  | nil => cases h
  | cons a l => simp

/-- The words of a line, and where they are. -/
structure Words (w : T) (a : Bool) (b : Bool) (c : Bool) (d : Bool) (e : Bool) (f : Bool) : Prop where
  told : sEq w ⟨#[116, 111, 108, 100]⟩ = a
  asked : sEq w ⟨#[97, 115, 107, 101, 100]⟩ = b
  given : sEq w ⟨#[103, 105, 118, 101, 110]⟩ = c
  back : sEq w ⟨#[98, 97, 99, 107]⟩ = d
  gotback : sEq w ⟨#[103, 111, 116, 98, 97, 99, 107]⟩ = e
  here : sEq w ⟨#[104, 101, 114, 101]⟩ = f
theorem words_any (w : T) : Words w true false false false false false ∨ Words w false true false false false false ∨ Words w false false true false false false ∨ Words w false false false true false false ∨ Words w false false false false true false ∨ Words w false false false false false true ∨ Words w false false false false false false := by
  by_cases h0 : w = ⟨#[116, 111, 108, 100]⟩
  · subst h0
    exact .inl ⟨(sEq_iff _ _).2 rfl, sEq_ne (by intro e; cases e), sEq_ne (by intro e; cases e), sEq_ne (by intro e; cases e), sEq_ne (by intro e; cases e), sEq_ne (by intro e; cases e)⟩
  by_cases h1 : w = ⟨#[97, 115, 107, 101, 100]⟩
  · subst h1
    exact .inr (.inl ⟨sEq_ne (by intro e; cases e), (sEq_iff _ _).2 rfl, sEq_ne (by intro e; cases e), sEq_ne (by intro e; cases e), sEq_ne (by intro e; cases e), sEq_ne (by intro e; cases e)⟩)
  by_cases h2 : w = ⟨#[103, 105, 118, 101, 110]⟩
  · subst h2
    exact .inr (.inr (.inl ⟨sEq_ne (by intro e; cases e), sEq_ne (by intro e; cases e), (sEq_iff _ _).2 rfl, sEq_ne (by intro e; cases e), sEq_ne (by intro e; cases e), sEq_ne (by intro e; cases e)⟩))
  by_cases h3 : w = ⟨#[98, 97, 99, 107]⟩
  · subst h3
    exact .inr (.inr (.inr (.inl ⟨sEq_ne (by intro e; cases e), sEq_ne (by intro e; cases e), sEq_ne (by intro e; cases e), (sEq_iff _ _).2 rfl, sEq_ne (by intro e; cases e), sEq_ne (by intro e; cases e)⟩)))
  by_cases h4 : w = ⟨#[103, 111, 116, 98, 97, 99, 107]⟩
  · subst h4
    exact .inr (.inr (.inr (.inr (.inl ⟨sEq_ne (by intro e; cases e), sEq_ne (by intro e; cases e), sEq_ne (by intro e; cases e), sEq_ne (by intro e; cases e), (sEq_iff _ _).2 rfl, sEq_ne (by intro e; cases e)⟩))))
  by_cases h5 : w = ⟨#[104, 101, 114, 101]⟩
  · subst h5
    exact .inr (.inr (.inr (.inr (.inr (.inl ⟨sEq_ne (by intro e; cases e), sEq_ne (by intro e; cases e), sEq_ne (by intro e; cases e), sEq_ne (by intro e; cases e), sEq_ne (by intro e; cases e), (sEq_iff _ _).2 rfl⟩)))))
  exact .inr (.inr (.inr (.inr (.inr (.inr (⟨sEq_ne h0, sEq_ne h1, sEq_ne h2, sEq_ne h3, sEq_ne h4, sEq_ne h5⟩))))))

theorem m1 : sEq ⟨#[103, 105, 118, 101, 110]⟩ ⟨#[97, 115, 107, 101, 100]⟩ = false := sEq_ne (by intro e; cases e)
theorem m2 : sEq ⟨#[98, 97, 99, 107]⟩ ⟨#[97, 115, 107, 101, 100]⟩ = false := sEq_ne (by intro e; cases e)
theorem m3 : sEq ⟨#[98, 97, 99, 107]⟩ ⟨#[103, 105, 118, 101, 110]⟩ = false := sEq_ne (by intro e; cases e)
set_option maxHeartbeats 8000000 in
theorem law207 (s : T) (hs : s.size ≤ 1048576) : F 207 [.str s] [] = some (.tup [.agg ((readI s).1.c .own), .bool (readI s).2], []) := by
  refine F_run fn207 rfl ?_
  have a0 := law222 s ⟨#[10]⟩ (by omega)
  obtain ⟨t, ht⟩ : ∃ t, t = s.extract 0 (s.size - 1) := ⟨_, rfl⟩
  have hts : t.size ≤ 1048576 := by
    rw [ht, ByteArray.size_extract]; omega
  obtain ⟨l0, ls, hl⟩ := cutT_ne t 10
  obtain ⟨w, wr, hw⟩ := cutT_ne l0 32
  have h0 : atW (cutT t 10) 0 = l0 := by rw [hl]; rfl
  have h1 : atW (cutT l0 32) 0 = w := by rw [hw]; rfl
  have a1 := law220c t 10 hts
  have hl0 : l0.size ≤ 1048576 := Nat.le_trans (cutT_mem (by rw [hl]; exact List.mem_cons_self)) hts
  have a2 := law220c l0 32 hl0
  have hls : ∀ x ∈ ls, x.size ≤ 1048576 := fun x hx => Nat.le_trans (cutT_mem (b := 10) (by rw [hl]; exact List.mem_cons_of_mem _ hx)) hts
  have hll := cutT_len t 10
  rw [hl, List.length_cons] at hll
  have hws : ∀ x ∈ w :: wr, x.size ≤ 281474976710656 := fun x hx => by
    have := cutT_mem (s := l0) (b := 32) (x := x) (by rw [hw]; exact hx)
    omega
  rw [hl] at a1
  rw [hw] at a2
  simp only [List.map_cons] at a1 a2
  cases k0 : Lib.hasSuffix s.data.toList [10]
  · have e0 : Lib.hasSuffix s.data.toList (⟨#[10]⟩ : T).data.toList = false := k0
    simp [c207_cut, a0, e0, readI, k0, noParcel, Parcel.c]
  · have e0 : Lib.hasSuffix s.data.toList (⟨#[10]⟩ : T).data.toList = true := k0
    have z0 : 1 ≤ s.size := suffix_last k0
    have z1 : IntKind.i64.wrap ((s.size : Int) - 1) = (s.size : Int) - 1 := i64w (by omega) (by omega)
    have z2 : (0 : Int) ≤ (s.size : Int) - 1 := by omega
    have z3 : (s.size : Int) - 1 ≤ s.size := by omega
    have z4 : ((s.size : Int) - 1).toNat = s.size - 1 := by omega
    have z5 : s.extract 0 (s.size - 1) = t := ht.symm
    have z6 : (1 : Int) ≤ s.size := by omega
    have hR : readI s = outI s (wordsI w (w :: wr) ls) := by
      rw [readI, k0, if_pos rfl, z5, h0, h1]; simp only [hl, hw, List.tail_cons]
    obtain ⟨R, hR2⟩ : ∃ R, R = readI s := ⟨_, rfl⟩
    rw [← hR2]
    rw [hR] at hR2
    clear hR
    rcases words_any w with hwd | hwd | hwd | hwd | hwd | hwd | hwd
    · obtain ⟨k1, k2, k3, k4, k5, k6⟩ := hwd
      rcases wr with _ | ⟨a, _ | ⟨b, _ | ⟨c, _ | ⟨d, _ | ⟨e, r⟩⟩⟩⟩⟩
      · simp [c207_cut, a0, e0, slBounds, z1, z2, z3, z4, z5, z6, a1, a2, k1, k2, k3, k4, k5, k6]
        exact tail207 s noParcel ⟨Nat.zero_le _⟩ _ _ 1152 (.sl .own 7 []) (by simp) (by simp) (by simp) (by simp [noParcel, Parcel.c]) (by simp [noParcel]) (.inl ⟨rfl, rfl⟩) (by simp; rfl) rfl R (by rw [hR2]; simp [wordsI, isAsk, readKind, atW, k1, k2, k3, k4, k5, k6])
      · simp [c207_cut, a0, e0, slBounds, z1, z2, z3, z4, z5, z6, a1, a2, k1, k2, k3, k4, k5, k6]
        exact tail207 s noParcel ⟨Nat.zero_le _⟩ _ _ 1152 (.sl .own 7 []) (by simp) (by simp) (by simp) (by simp [noParcel, Parcel.c]) (by simp [noParcel]) (.inl ⟨rfl, rfl⟩) (by simp; rfl) rfl R (by rw [hR2]; simp [wordsI, isAsk, readKind, atW, k1, k2, k3, k4, k5, k6])
      · have nb := law221 b (hws b (by simp))
        have z7 : (1 : Int) ≤ (ls.length : Int) + 1 := by omega
        have z8 : 1 + ls.length ≤ ls.length + 1 := by omega
        have z9 : (ls.map fun x => [AV.str x]).take ls.length = ls.map fun x => [AV.str x] := List.take_of_length_le (by simp)
        simp [c207_cut, a0, e0, slBounds, z1, z2, z3, z4, z5, z6, a1, a2, k1, k2, k3, k4, k5, k6, nb, z7, z8, z9]
        refine (loop207 s l0 ls a (numT b) hls (by omega) _ ?_).trans ?_
        · simp [head207, wantsV, wantsH]
        · rw [hR2, wordsI]
          simp [k1, atW]
          cases linesI [] ls <;> rfl
      · simp [c207_cut, a0, e0, slBounds, z1, z2, z3, z4, z5, z6, a1, a2, k1, k2, k3, k4, k5, k6]
        exact tail207 s noParcel ⟨Nat.zero_le _⟩ _ _ 1152 (.sl .own 7 []) (by simp) (by simp) (by simp) (by simp [noParcel, Parcel.c]) (by simp [noParcel]) (.inl ⟨rfl, rfl⟩) (by simp; rfl) rfl R (by rw [hR2]; simp [wordsI, isAsk, readKind, atW, k1, k2, k3, k4, k5, k6])
      · simp [c207_cut, a0, e0, slBounds, z1, z2, z3, z4, z5, z6, a1, a2, k1, k2, k3, k4, k5, k6]
        exact tail207 s noParcel ⟨Nat.zero_le _⟩ _ _ 1152 (.sl .own 7 []) (by simp) (by simp) (by simp) (by simp [noParcel, Parcel.c]) (by simp [noParcel]) (.inl ⟨rfl, rfl⟩) (by simp; rfl) rfl R (by rw [hR2]; simp [wordsI, isAsk, readKind, atW, k1, k2, k3, k4, k5, k6])
      · have q3 : ¬ (r.length : Int) + 1 + 1 + 1 + 1 + 1 + 1 = 3 := by omega
        have q4 : ¬ (r.length : Int) + 1 + 1 + 1 + 1 + 1 + 1 = 4 := by omega
        have q5 : ¬ (r.length : Int) + 1 + 1 + 1 + 1 + 1 + 1 = 5 := by omega
        simp [c207_cut, a0, e0, slBounds, z1, z2, z3, z4, z5, z6, a1, a2, k1, k2, k3, k4, k5, k6, q3, q4, q5]
        exact tail207 s noParcel ⟨Nat.zero_le _⟩ _ _ 1152 (.sl .own 7 []) (by simp) (by simp) (by simp) (by simp [noParcel, Parcel.c]) (by simp [noParcel]) (.inl ⟨rfl, rfl⟩) (by simp; rfl) rfl R (by rw [hR2]; simp [wordsI, isAsk, readKind, atW, k1, k2, k3, k4, k5, k6])
    · obtain ⟨k1, k2, k3, k4, k5, k6⟩ := hwd
      rcases wr with _ | ⟨a, _ | ⟨b, _ | ⟨c, _ | ⟨d, _ | ⟨e, r⟩⟩⟩⟩⟩
      · simp [c207_cut, a0, e0, slBounds, z1, z2, z3, z4, z5, z6, a1, a2, k1, k2, k3, k4, k5, k6]
        exact tail207 s noParcel ⟨Nat.zero_le _⟩ _ _ 1152 (.sl .own 7 []) (by simp) (by simp) (by simp) (by simp [noParcel, Parcel.c]) (by simp [noParcel]) (.inl ⟨rfl, rfl⟩) (by simp; rfl) rfl R (by rw [hR2]; simp [wordsI, isAsk, readKind, atW, k1, k2, k3, k4, k5, k6])
      · simp [c207_cut, a0, e0, slBounds, z1, z2, z3, z4, z5, z6, a1, a2, k1, k2, k3, k4, k5, k6]
        exact tail207 s noParcel ⟨Nat.zero_le _⟩ _ _ 1152 (.sl .own 7 []) (by simp) (by simp) (by simp) (by simp [noParcel, Parcel.c]) (by simp [noParcel]) (.inl ⟨rfl, rfl⟩) (by simp; rfl) rfl R (by rw [hR2]; simp [wordsI, isAsk, readKind, atW, k1, k2, k3, k4, k5, k6])
      · simp [c207_cut, a0, e0, slBounds, z1, z2, z3, z4, z5, z6, a1, a2, k1, k2, k3, k4, k5, k6]
        exact tail207 s noParcel ⟨Nat.zero_le _⟩ _ _ 1152 (.sl .own 7 []) (by simp) (by simp) (by simp) (by simp [noParcel, Parcel.c]) (by simp [noParcel]) (.inl ⟨rfl, rfl⟩) (by simp; rfl) rfl R (by rw [hR2]; simp [wordsI, isAsk, readKind, atW, k1, k2, k3, k4, k5, k6])
      · simp [c207_cut, a0, e0, slBounds, z1, z2, z3, z4, z5, z6, a1, a2, k1, k2, k3, k4, k5, k6]
        exact tail207 s noParcel ⟨Nat.zero_le _⟩ _ _ 1152 (.sl .own 7 []) (by simp) (by simp) (by simp) (by simp [noParcel, Parcel.c]) (by simp [noParcel]) (.inl ⟨rfl, rfl⟩) (by simp; rfl) rfl R (by rw [hR2]; simp [wordsI, isAsk, readKind, atW, k1, k2, k3, k4, k5, k6])
      · have nb := law221 d (hws d (by simp))
        simp [c207_cut, a0, e0, slBounds, z1, z2, z3, z4, z5, z6, a1, a2, k1, k2, k3, k4, k5, k6, nb, mapGet, mapPut, noKeys, m1, m2, m3]
        exact tail207 s ⟨2, a, 0, [], b, c, numT d⟩ ⟨Nat.zero_le _⟩ _ _ 1152 (.sl .own 7 []) (by simp) (by simp) (by simp) (by simp [noParcel, Parcel.c]) (by simp [noParcel]) (.inl ⟨rfl, rfl⟩) (by simp; rfl) rfl R (by rw [hR2]; simp [wordsI, isAsk, readKind, atW, k1, k2, k3, k4, k5, k6])
      · have q3 : ¬ (r.length : Int) + 1 + 1 + 1 + 1 + 1 + 1 = 3 := by omega
        have q4 : ¬ (r.length : Int) + 1 + 1 + 1 + 1 + 1 + 1 = 4 := by omega
        have q5 : ¬ (r.length : Int) + 1 + 1 + 1 + 1 + 1 + 1 = 5 := by omega
        simp [c207_cut, a0, e0, slBounds, z1, z2, z3, z4, z5, z6, a1, a2, k1, k2, k3, k4, k5, k6, q3, q4, q5]
        exact tail207 s noParcel ⟨Nat.zero_le _⟩ _ _ 1152 (.sl .own 7 []) (by simp) (by simp) (by simp) (by simp [noParcel, Parcel.c]) (by simp [noParcel]) (.inl ⟨rfl, rfl⟩) (by simp; rfl) rfl R (by rw [hR2]; simp [wordsI, isAsk, readKind, atW, k1, k2, k3, k4, k5, k6])
    · obtain ⟨k1, k2, k3, k4, k5, k6⟩ := hwd
      rcases wr with _ | ⟨a, _ | ⟨b, _ | ⟨c, _ | ⟨d, _ | ⟨e, r⟩⟩⟩⟩⟩
      · simp [c207_cut, a0, e0, slBounds, z1, z2, z3, z4, z5, z6, a1, a2, k1, k2, k3, k4, k5, k6]
        exact tail207 s noParcel ⟨Nat.zero_le _⟩ _ _ 1152 (.sl .own 7 []) (by simp) (by simp) (by simp) (by simp [noParcel, Parcel.c]) (by simp [noParcel]) (.inl ⟨rfl, rfl⟩) (by simp; rfl) rfl R (by rw [hR2]; simp [wordsI, isAsk, readKind, atW, k1, k2, k3, k4, k5, k6])
      · simp [c207_cut, a0, e0, slBounds, z1, z2, z3, z4, z5, z6, a1, a2, k1, k2, k3, k4, k5, k6]
        exact tail207 s noParcel ⟨Nat.zero_le _⟩ _ _ 1152 (.sl .own 7 []) (by simp) (by simp) (by simp) (by simp [noParcel, Parcel.c]) (by simp [noParcel]) (.inl ⟨rfl, rfl⟩) (by simp; rfl) rfl R (by rw [hR2]; simp [wordsI, isAsk, readKind, atW, k1, k2, k3, k4, k5, k6])
      · simp [c207_cut, a0, e0, slBounds, z1, z2, z3, z4, z5, z6, a1, a2, k1, k2, k3, k4, k5, k6]
        exact tail207 s noParcel ⟨Nat.zero_le _⟩ _ _ 1152 (.sl .own 7 []) (by simp) (by simp) (by simp) (by simp [noParcel, Parcel.c]) (by simp [noParcel]) (.inl ⟨rfl, rfl⟩) (by simp; rfl) rfl R (by rw [hR2]; simp [wordsI, isAsk, readKind, atW, k1, k2, k3, k4, k5, k6])
      · simp [c207_cut, a0, e0, slBounds, z1, z2, z3, z4, z5, z6, a1, a2, k1, k2, k3, k4, k5, k6]
        exact tail207 s noParcel ⟨Nat.zero_le _⟩ _ _ 1152 (.sl .own 7 []) (by simp) (by simp) (by simp) (by simp [noParcel, Parcel.c]) (by simp [noParcel]) (.inl ⟨rfl, rfl⟩) (by simp; rfl) rfl R (by rw [hR2]; simp [wordsI, isAsk, readKind, atW, k1, k2, k3, k4, k5, k6])
      · have nb := law221 d (hws d (by simp))
        simp [c207_cut, a0, e0, slBounds, z1, z2, z3, z4, z5, z6, a1, a2, k1, k2, k3, k4, k5, k6, nb, mapGet, mapPut, noKeys, m1, m2, m3]
        exact tail207 s ⟨3, a, 0, [], b, c, numT d⟩ ⟨Nat.zero_le _⟩ _ _ 1152 (.sl .own 7 []) (by simp) (by simp) (by simp) (by simp [noParcel, Parcel.c]) (by simp [noParcel]) (.inl ⟨rfl, rfl⟩) (by simp; rfl) rfl R (by rw [hR2]; simp [wordsI, isAsk, readKind, atW, k1, k2, k3, k4, k5, k6])
      · have q3 : ¬ (r.length : Int) + 1 + 1 + 1 + 1 + 1 + 1 = 3 := by omega
        have q4 : ¬ (r.length : Int) + 1 + 1 + 1 + 1 + 1 + 1 = 4 := by omega
        have q5 : ¬ (r.length : Int) + 1 + 1 + 1 + 1 + 1 + 1 = 5 := by omega
        simp [c207_cut, a0, e0, slBounds, z1, z2, z3, z4, z5, z6, a1, a2, k1, k2, k3, k4, k5, k6, q3, q4, q5]
        exact tail207 s noParcel ⟨Nat.zero_le _⟩ _ _ 1152 (.sl .own 7 []) (by simp) (by simp) (by simp) (by simp [noParcel, Parcel.c]) (by simp [noParcel]) (.inl ⟨rfl, rfl⟩) (by simp; rfl) rfl R (by rw [hR2]; simp [wordsI, isAsk, readKind, atW, k1, k2, k3, k4, k5, k6])
    · obtain ⟨k1, k2, k3, k4, k5, k6⟩ := hwd
      rcases wr with _ | ⟨a, _ | ⟨b, _ | ⟨c, _ | ⟨d, _ | ⟨e, r⟩⟩⟩⟩⟩
      · simp [c207_cut, a0, e0, slBounds, z1, z2, z3, z4, z5, z6, a1, a2, k1, k2, k3, k4, k5, k6]
        exact tail207 s noParcel ⟨Nat.zero_le _⟩ _ _ 1152 (.sl .own 7 []) (by simp) (by simp) (by simp) (by simp [noParcel, Parcel.c]) (by simp [noParcel]) (.inl ⟨rfl, rfl⟩) (by simp; rfl) rfl R (by rw [hR2]; simp [wordsI, isAsk, readKind, atW, k1, k2, k3, k4, k5, k6])
      · simp [c207_cut, a0, e0, slBounds, z1, z2, z3, z4, z5, z6, a1, a2, k1, k2, k3, k4, k5, k6]
        exact tail207 s noParcel ⟨Nat.zero_le _⟩ _ _ 1152 (.sl .own 7 []) (by simp) (by simp) (by simp) (by simp [noParcel, Parcel.c]) (by simp [noParcel]) (.inl ⟨rfl, rfl⟩) (by simp; rfl) rfl R (by rw [hR2]; simp [wordsI, isAsk, readKind, atW, k1, k2, k3, k4, k5, k6])
      · simp [c207_cut, a0, e0, slBounds, z1, z2, z3, z4, z5, z6, a1, a2, k1, k2, k3, k4, k5, k6]
        exact tail207 s noParcel ⟨Nat.zero_le _⟩ _ _ 1152 (.sl .own 7 []) (by simp) (by simp) (by simp) (by simp [noParcel, Parcel.c]) (by simp [noParcel]) (.inl ⟨rfl, rfl⟩) (by simp; rfl) rfl R (by rw [hR2]; simp [wordsI, isAsk, readKind, atW, k1, k2, k3, k4, k5, k6])
      · simp [c207_cut, a0, e0, slBounds, z1, z2, z3, z4, z5, z6, a1, a2, k1, k2, k3, k4, k5, k6]
        exact tail207 s noParcel ⟨Nat.zero_le _⟩ _ _ 1152 (.sl .own 7 []) (by simp) (by simp) (by simp) (by simp [noParcel, Parcel.c]) (by simp [noParcel]) (.inl ⟨rfl, rfl⟩) (by simp; rfl) rfl R (by rw [hR2]; simp [wordsI, isAsk, readKind, atW, k1, k2, k3, k4, k5, k6])
      · have nb := law221 d (hws d (by simp))
        simp [c207_cut, a0, e0, slBounds, z1, z2, z3, z4, z5, z6, a1, a2, k1, k2, k3, k4, k5, k6, nb, mapGet, mapPut, noKeys, m1, m2, m3]
        exact tail207 s ⟨4, a, 0, [], b, c, numT d⟩ ⟨Nat.zero_le _⟩ _ _ 1152 (.sl .own 7 []) (by simp) (by simp) (by simp) (by simp [noParcel, Parcel.c]) (by simp [noParcel]) (.inl ⟨rfl, rfl⟩) (by simp; rfl) rfl R (by rw [hR2]; simp [wordsI, isAsk, readKind, atW, k1, k2, k3, k4, k5, k6])
      · have q3 : ¬ (r.length : Int) + 1 + 1 + 1 + 1 + 1 + 1 = 3 := by omega
        have q4 : ¬ (r.length : Int) + 1 + 1 + 1 + 1 + 1 + 1 = 4 := by omega
        have q5 : ¬ (r.length : Int) + 1 + 1 + 1 + 1 + 1 + 1 = 5 := by omega
        simp [c207_cut, a0, e0, slBounds, z1, z2, z3, z4, z5, z6, a1, a2, k1, k2, k3, k4, k5, k6, q3, q4, q5]
        exact tail207 s noParcel ⟨Nat.zero_le _⟩ _ _ 1152 (.sl .own 7 []) (by simp) (by simp) (by simp) (by simp [noParcel, Parcel.c]) (by simp [noParcel]) (.inl ⟨rfl, rfl⟩) (by simp; rfl) rfl R (by rw [hR2]; simp [wordsI, isAsk, readKind, atW, k1, k2, k3, k4, k5, k6])
    · obtain ⟨k1, k2, k3, k4, k5, k6⟩ := hwd
      rcases wr with _ | ⟨a, _ | ⟨b, _ | ⟨c, _ | ⟨d, _ | ⟨e, r⟩⟩⟩⟩⟩
      · simp [c207_cut, a0, e0, slBounds, z1, z2, z3, z4, z5, z6, a1, a2, k1, k2, k3, k4, k5, k6]
        exact tail207 s noParcel ⟨Nat.zero_le _⟩ _ _ 1152 (.sl .own 7 []) (by simp) (by simp) (by simp) (by simp [noParcel, Parcel.c]) (by simp [noParcel]) (.inl ⟨rfl, rfl⟩) (by simp; rfl) rfl R (by rw [hR2]; simp [wordsI, isAsk, readKind, atW, k1, k2, k3, k4, k5, k6])
      · simp [c207_cut, a0, e0, slBounds, z1, z2, z3, z4, z5, z6, a1, a2, k1, k2, k3, k4, k5, k6]
        exact tail207 s noParcel ⟨Nat.zero_le _⟩ _ _ 1152 (.sl .own 7 []) (by simp) (by simp) (by simp) (by simp [noParcel, Parcel.c]) (by simp [noParcel]) (.inl ⟨rfl, rfl⟩) (by simp; rfl) rfl R (by rw [hR2]; simp [wordsI, isAsk, readKind, atW, k1, k2, k3, k4, k5, k6])
      · simp [c207_cut, a0, e0, slBounds, z1, z2, z3, z4, z5, z6, a1, a2, k1, k2, k3, k4, k5, k6]
        exact tail207 s noParcel ⟨Nat.zero_le _⟩ _ _ 1152 (.sl .own 7 []) (by simp) (by simp) (by simp) (by simp [noParcel, Parcel.c]) (by simp [noParcel]) (.inl ⟨rfl, rfl⟩) (by simp; rfl) rfl R (by rw [hR2]; simp [wordsI, isAsk, readKind, atW, k1, k2, k3, k4, k5, k6])
      · have nb := law221 c (hws c (by simp))
        simp [c207_cut, a0, e0, slBounds, z1, z2, z3, z4, z5, z6, a1, a2, k1, k2, k3, k4, k5, k6, nb]
        exact tail207 s ⟨5, a, 0, [], b, ⟨#[]⟩, numT c⟩ ⟨Nat.zero_le _⟩ _ _ 1152 (.sl .own 7 []) (by simp) (by simp) (by simp) (by simp [noParcel, Parcel.c]) (by simp [noParcel]) (.inl ⟨rfl, rfl⟩) (by simp; rfl) rfl R (by rw [hR2]; simp [wordsI, isAsk, readKind, atW, k1, k2, k3, k4, k5, k6])
      · simp [c207_cut, a0, e0, slBounds, z1, z2, z3, z4, z5, z6, a1, a2, k1, k2, k3, k4, k5, k6]
        exact tail207 s noParcel ⟨Nat.zero_le _⟩ _ _ 1152 (.sl .own 7 []) (by simp) (by simp) (by simp) (by simp [noParcel, Parcel.c]) (by simp [noParcel]) (.inl ⟨rfl, rfl⟩) (by simp; rfl) rfl R (by rw [hR2]; simp [wordsI, isAsk, readKind, atW, k1, k2, k3, k4, k5, k6])
      · have q3 : ¬ (r.length : Int) + 1 + 1 + 1 + 1 + 1 + 1 = 3 := by omega
        have q4 : ¬ (r.length : Int) + 1 + 1 + 1 + 1 + 1 + 1 = 4 := by omega
        have q5 : ¬ (r.length : Int) + 1 + 1 + 1 + 1 + 1 + 1 = 5 := by omega
        simp [c207_cut, a0, e0, slBounds, z1, z2, z3, z4, z5, z6, a1, a2, k1, k2, k3, k4, k5, k6, q3, q4, q5]
        exact tail207 s noParcel ⟨Nat.zero_le _⟩ _ _ 1152 (.sl .own 7 []) (by simp) (by simp) (by simp) (by simp [noParcel, Parcel.c]) (by simp [noParcel]) (.inl ⟨rfl, rfl⟩) (by simp; rfl) rfl R (by rw [hR2]; simp [wordsI, isAsk, readKind, atW, k1, k2, k3, k4, k5, k6])
    · obtain ⟨k1, k2, k3, k4, k5, k6⟩ := hwd
      rcases wr with _ | ⟨a, _ | ⟨b, _ | ⟨c, _ | ⟨d, _ | ⟨e, r⟩⟩⟩⟩⟩
      · simp [c207_cut, a0, e0, slBounds, z1, z2, z3, z4, z5, z6, a1, a2, k1, k2, k3, k4, k5, k6]
        exact tail207 s noParcel ⟨Nat.zero_le _⟩ _ _ 1152 (.sl .own 7 []) (by simp) (by simp) (by simp) (by simp [noParcel, Parcel.c]) (by simp [noParcel]) (.inl ⟨rfl, rfl⟩) (by simp; rfl) rfl R (by rw [hR2]; simp [wordsI, isAsk, readKind, atW, k1, k2, k3, k4, k5, k6])
      · simp [c207_cut, a0, e0, slBounds, z1, z2, z3, z4, z5, z6, a1, a2, k1, k2, k3, k4, k5, k6]
        exact tail207 s noParcel ⟨Nat.zero_le _⟩ _ _ 1152 (.sl .own 7 []) (by simp) (by simp) (by simp) (by simp [noParcel, Parcel.c]) (by simp [noParcel]) (.inl ⟨rfl, rfl⟩) (by simp; rfl) rfl R (by rw [hR2]; simp [wordsI, isAsk, readKind, atW, k1, k2, k3, k4, k5, k6])
      · have nb := law221 b (hws b (by simp))
        simp [c207_cut, a0, e0, slBounds, z1, z2, z3, z4, z5, z6, a1, a2, k1, k2, k3, k4, k5, k6, nb]
        exact tail207 s ⟨6, a, numT b, [], ⟨#[]⟩, ⟨#[]⟩, 0⟩ ⟨Nat.zero_le _⟩ _ _ 1152 (.sl .own 7 []) (by simp) (by simp) (by simp) (by simp [noParcel, Parcel.c]) (by simp [noParcel]) (.inl ⟨rfl, rfl⟩) (by simp; rfl) rfl R (by rw [hR2]; simp [wordsI, isAsk, readKind, atW, k1, k2, k3, k4, k5, k6])
      · simp [c207_cut, a0, e0, slBounds, z1, z2, z3, z4, z5, z6, a1, a2, k1, k2, k3, k4, k5, k6]
        exact tail207 s noParcel ⟨Nat.zero_le _⟩ _ _ 1152 (.sl .own 7 []) (by simp) (by simp) (by simp) (by simp [noParcel, Parcel.c]) (by simp [noParcel]) (.inl ⟨rfl, rfl⟩) (by simp; rfl) rfl R (by rw [hR2]; simp [wordsI, isAsk, readKind, atW, k1, k2, k3, k4, k5, k6])
      · simp [c207_cut, a0, e0, slBounds, z1, z2, z3, z4, z5, z6, a1, a2, k1, k2, k3, k4, k5, k6]
        exact tail207 s noParcel ⟨Nat.zero_le _⟩ _ _ 1152 (.sl .own 7 []) (by simp) (by simp) (by simp) (by simp [noParcel, Parcel.c]) (by simp [noParcel]) (.inl ⟨rfl, rfl⟩) (by simp; rfl) rfl R (by rw [hR2]; simp [wordsI, isAsk, readKind, atW, k1, k2, k3, k4, k5, k6])
      · have q3 : ¬ (r.length : Int) + 1 + 1 + 1 + 1 + 1 + 1 = 3 := by omega
        have q4 : ¬ (r.length : Int) + 1 + 1 + 1 + 1 + 1 + 1 = 4 := by omega
        have q5 : ¬ (r.length : Int) + 1 + 1 + 1 + 1 + 1 + 1 = 5 := by omega
        simp [c207_cut, a0, e0, slBounds, z1, z2, z3, z4, z5, z6, a1, a2, k1, k2, k3, k4, k5, k6, q3, q4, q5]
        exact tail207 s noParcel ⟨Nat.zero_le _⟩ _ _ 1152 (.sl .own 7 []) (by simp) (by simp) (by simp) (by simp [noParcel, Parcel.c]) (by simp [noParcel]) (.inl ⟨rfl, rfl⟩) (by simp; rfl) rfl R (by rw [hR2]; simp [wordsI, isAsk, readKind, atW, k1, k2, k3, k4, k5, k6])
    · obtain ⟨k1, k2, k3, k4, k5, k6⟩ := hwd
      rcases wr with _ | ⟨a, _ | ⟨b, _ | ⟨c, _ | ⟨d, _ | ⟨e, r⟩⟩⟩⟩⟩
      · simp [c207_cut, a0, e0, slBounds, z1, z2, z3, z4, z5, z6, a1, a2, k1, k2, k3, k4, k5, k6]
        exact tail207 s noParcel ⟨Nat.zero_le _⟩ _ _ 1152 (.sl .own 7 []) (by simp) (by simp) (by simp) (by simp [noParcel, Parcel.c]) (by simp [noParcel]) (.inl ⟨rfl, rfl⟩) (by simp; rfl) rfl R (by rw [hR2]; simp [wordsI, isAsk, readKind, atW, k1, k2, k3, k4, k5, k6])
      · simp [c207_cut, a0, e0, slBounds, z1, z2, z3, z4, z5, z6, a1, a2, k1, k2, k3, k4, k5, k6]
        exact tail207 s noParcel ⟨Nat.zero_le _⟩ _ _ 1152 (.sl .own 7 []) (by simp) (by simp) (by simp) (by simp [noParcel, Parcel.c]) (by simp [noParcel]) (.inl ⟨rfl, rfl⟩) (by simp; rfl) rfl R (by rw [hR2]; simp [wordsI, isAsk, readKind, atW, k1, k2, k3, k4, k5, k6])
      · simp [c207_cut, a0, e0, slBounds, z1, z2, z3, z4, z5, z6, a1, a2, k1, k2, k3, k4, k5, k6]
        exact tail207 s noParcel ⟨Nat.zero_le _⟩ _ _ 1152 (.sl .own 7 []) (by simp) (by simp) (by simp) (by simp [noParcel, Parcel.c]) (by simp [noParcel]) (.inl ⟨rfl, rfl⟩) (by simp; rfl) rfl R (by rw [hR2]; simp [wordsI, isAsk, readKind, atW, k1, k2, k3, k4, k5, k6])
      · simp [c207_cut, a0, e0, slBounds, z1, z2, z3, z4, z5, z6, a1, a2, k1, k2, k3, k4, k5, k6]
        exact tail207 s noParcel ⟨Nat.zero_le _⟩ _ _ 1152 (.sl .own 7 []) (by simp) (by simp) (by simp) (by simp [noParcel, Parcel.c]) (by simp [noParcel]) (.inl ⟨rfl, rfl⟩) (by simp; rfl) rfl R (by rw [hR2]; simp [wordsI, isAsk, readKind, atW, k1, k2, k3, k4, k5, k6])
      · simp [c207_cut, a0, e0, slBounds, z1, z2, z3, z4, z5, z6, a1, a2, k1, k2, k3, k4, k5, k6]
        exact tail207 s noParcel ⟨Nat.zero_le _⟩ _ _ 1152 (.sl .own 7 []) (by simp) (by simp) (by simp) (by simp [noParcel, Parcel.c]) (by simp [noParcel]) (.inl ⟨rfl, rfl⟩) (by simp; rfl) rfl R (by rw [hR2]; simp [wordsI, isAsk, readKind, atW, k1, k2, k3, k4, k5, k6])
      · have q3 : ¬ (r.length : Int) + 1 + 1 + 1 + 1 + 1 + 1 = 3 := by omega
        have q4 : ¬ (r.length : Int) + 1 + 1 + 1 + 1 + 1 + 1 = 4 := by omega
        have q5 : ¬ (r.length : Int) + 1 + 1 + 1 + 1 + 1 + 1 = 5 := by omega
        simp [c207_cut, a0, e0, slBounds, z1, z2, z3, z4, z5, z6, a1, a2, k1, k2, k3, k4, k5, k6, q3, q4, q5]
        exact tail207 s noParcel ⟨Nat.zero_le _⟩ _ _ 1152 (.sl .own 7 []) (by simp) (by simp) (by simp) (by simp [noParcel, Parcel.c]) (by simp [noParcel]) (.inl ⟨rfl, rfl⟩) (by simp; rfl) rfl R (by rw [hR2]; simp [wordsI, isAsk, readKind, atW, k1, k2, k3, k4, k5, k6])
end Go.Proofs.YtaikddhcplfpmaaGreatDoor

namespace Go.Proofs.YtaikddhcplfpmaaGreatDoor
open Go
set_option linter.unusedSimpArgs false
set_option maxRecDepth 100000

/-! ### Numbers -/
theorem digit_nat {d : Nat} (h : d < 10) : (UInt8.ofNat (48 + d)).toNat = 48 + d := by
  rw [UInt8.toNat_ofNat']; omega
theorem dec_bytes : ∀ (n : Nat) (x : UInt8), x ∈ Lib.decDigits n → 48 ≤ x.toNat ∧ x.toNat ≤ 57 := by
  intro n
  induction n using Nat.strongRecOn with
  | ind n ih =>
    intro x hx
    rw [Lib.decDigits] at hx
    split at hx
    · simp only [List.mem_singleton] at hx
      subst hx
      rw [digit_nat (by omega)]; omega
    · rcases List.mem_append.1 hx with hx | hx
      · exact ih (n / 10) (by omega) x hx
      · simp only [List.mem_singleton] at hx
        subst hx
        rw [digit_nat (by omega)]; omega
theorem dec_ne (n : Nat) : ∃ c r, Lib.decDigits n = c :: r := by
  cases h : Lib.decDigits n with
  | cons c r => exact ⟨c, r, rfl⟩
  | nil =>
    rw [Lib.decDigits] at h
    split at h <;> simp at h
theorem parse_dec : ∀ (n : Nat), n ≤ 1000000 → ∀ r, Lib.parseUint10 0 (Lib.decDigits n ++ r) = Lib.parseUint10 n r := by
  intro n
  induction n using Nat.strongRecOn with
  | ind n ih =>
    intro hn r
    rw [Lib.decDigits]
    split
    · rename_i h
      rw [List.cons_append, List.nil_append, Lib.parseUint10, digit_nat h, if_pos ⟨by omega, by omega⟩, if_neg (by omega), if_neg (by omega)]
      congr 1; omega
    · have hd : n % 10 < 10 := by omega
      rw [List.append_assoc, ih (n / 10) (by omega) (by omega), List.cons_append, List.nil_append, Lib.parseUint10, digit_nat hd, if_pos ⟨by omega, by omega⟩, if_neg (by omega), if_neg (by omega)]
      congr 1; omega
theorem digs_dec : ∀ (n : Nat) (r : List UInt8), digs 0 (Lib.decDigits n ++ r) = digs n r := by
  intro n
  induction n using Nat.strongRecOn with
  | ind n ih =>
    intro r
    rw [Lib.decDigits]
    split
    · rename_i h
      rw [List.cons_append, List.nil_append, digs, digit_nat h, if_pos ⟨by omega, by omega⟩]
      congr 1; omega
    · have hd : n % 10 < 10 := by omega
      rw [List.append_assoc, ih (n / 10) (by omega), List.cons_append, List.nil_append, digs, digit_nat hd, if_pos ⟨by omega, by omega⟩]
      congr 1; omega
theorem numT_dec (n : Int) (h0 : 0 ≤ n) (h1 : n ≤ 1000000) : numT (dec n.toNat) = n := by
  unfold numT
  rw [dec_lib]
  obtain ⟨c, r, e⟩ := dec_ne n.toNat
  have hc := dec_bytes n.toNat c (by rw [e]; exact List.mem_cons_self)
  have hp := parse_dec n.toNat (by omega) []
  rw [List.append_nil] at hp
  rw [e] at hp ⊢
  simp only [Lib.atoiAll, Lib.parseMag]
  have hs : ¬ (c.toNat = 43 ∨ c.toNat = 45) := by omega
  have hm : ¬ c.toNat = 45 := by omega
  rw [if_neg hs, if_neg (List.cons_ne_nil _ _), hp]
  simp only [Lib.parseUint10]
  rw [if_neg (by omega), if_neg (by omega), if_neg hm]
  show ((n.toNat : Nat) : Int) = n
  omega
theorem num7_dec (n : Int) (h0 : 0 ≤ n) (h1 : n ≤ 1000000) : num7 (dec n.toNat) = n := by
  have hs := (law140' n h0 h1).2
  obtain ⟨c, r, e⟩ := dec_ne n.toNat
  have h1 : 1 ≤ (dec n.toNat).size := by
    rw [← size_toList, dec_lib, e]; simp
  have hd := digs_dec n.toNat []
  rw [List.append_nil] at hd
  rw [num7, if_pos ⟨h1, hs⟩, dec_lib, hd]
  simp only [digs]
  rw [show ((n.toNat : Nat) : Int) = n by omega, (sEq_iff _ _).2 rfl]
  rfl

/-! ### Lines and words -/
def lns (ls : List (List UInt8)) : List UInt8 := ls.flatMap (· ++ [10])
def wds (w : List UInt8) (r : List (List UInt8)) : List UInt8 := w ++ r.flatMap (32 :: ·)

theorem cut_wds : ∀ (w : List UInt8) (r : List (List UInt8)), (∀ x ∈ w :: r, ¬ (32 : UInt8) ∈ x) → cutA 32 [] (wds w r) = w :: r
  | w, [], h => by
    rw [wds, List.flatMap_nil, List.append_nil, cutA_no _ (h w List.mem_cons_self)]; rfl
  | w, v :: r, h => by
    rw [wds, List.flatMap_cons, List.cons_append, cutA_at _ (h w List.mem_cons_self), List.nil_append]
    have := cut_wds v r (fun x hx => h x (List.mem_cons_of_mem _ hx))
    rw [wds] at this
    rw [this]
theorem cut_lns : ∀ (ls : List (List UInt8)), (∀ x ∈ ls, ¬ (10 : UInt8) ∈ x) → cutA 10 [] (lns ls) = ls ++ [[]]
  | [], _ => rfl
  | l :: ls, h => by
    rw [lns, List.flatMap_cons, List.append_assoc, List.cons_append, List.nil_append, cutA_at _ (h l List.mem_cons_self), List.nil_append]
    have := cut_lns ls (fun x hx => h x (List.mem_cons_of_mem _ hx))
    rw [lns] at this
    rw [this]; rfl
theorem lns_ne (l : List UInt8) (ls : List (List UInt8)) : lns (l :: ls) ≠ [] := by simp [lns]
theorem cut_lns' : ∀ (l : List UInt8) (ls : List (List UInt8)), (∀ x ∈ l :: ls, ¬ (10 : UInt8) ∈ x) → cutA 10 [] (lns (l :: ls)).dropLast = l :: ls
  | l, [], h => by
    rw [lns, List.flatMap_cons, List.flatMap_nil, List.append_nil, List.dropLast_concat, cutA_no _ (h l List.mem_cons_self)]; rfl
  | l, v :: ls, h => by
    have e : (lns (l :: v :: ls)).dropLast = l ++ 10 :: (lns (v :: ls)).dropLast := by
      rw [lns, List.flatMap_cons, List.append_assoc, List.cons_append, List.nil_append, List.dropLast_append_of_ne_nil (by simp)]
      show l ++ (10 :: lns (v :: ls)).dropLast = _
      rw [List.dropLast_cons_of_ne_nil (lns_ne v ls)]
    rw [e, cutA_at _ (h l List.mem_cons_self), cut_lns' v ls (fun x hx => h x (List.mem_cons_of_mem _ hx))]; rfl
theorem lns_suffix : ∀ (l : List UInt8) (ls : List (List UInt8)), Lib.hasSuffix (lns (l :: ls)) [10] = true := by
  intro l ls
  induction ls generalizing l with
  | nil => simp [lns, Lib.hasSuffix]
  | cons v ls ih =>
    have := ih v
    simp only [Lib.hasSuffix, List.isSuffixOf_iff_suffix] at this ⊢
    rw [show lns (l :: v :: ls) = (l ++ [10]) ++ lns (v :: ls) by simp [lns]]
    exact List.IsSuffix.trans this (List.suffix_append _ _)

theorem mkT_self (s : T) : mkT s.data.toList = s := rfl

/-- A text of lines, cut. -/
theorem read_lns {s : T} {l : List UInt8} {ls : List (List UInt8)} (hs : s.data.toList = lns (l :: ls)) (h : ∀ x ∈ l :: ls, ¬ (10 : UInt8) ∈ x) :
    readS s = readWords (atW (cutT (mkT l) 32) 0) (cutT (mkT l) 32) (ls.map mkT ++ [⟨#[]⟩]) ∧ readI s = outI s (wordsI (atW (cutT (mkT l) 32) 0) (cutT (mkT l) 32) (ls.map mkT)) ∧ sEq s ⟨#[]⟩ = false := by
  have e1 : cutT s 10 = mkT l :: (ls.map mkT ++ [⟨#[]⟩]) := by
    rw [cutT, hs, cut_lns _ h]; simp; rfl
  have e2 : cutT (s.extract 0 (s.size - 1)) 10 = mkT l :: ls.map mkT := by
    rw [cutT, extract_mk, mkT_data, List.drop_zero, ← size_toList, ← List.dropLast_eq_take, hs, cut_lns' _ _ h]; rfl
  refine ⟨?_, ?_, ?_⟩
  · rw [readS, e1]; rfl
  · rw [readI, e2, hs, lns_suffix]; rfl
  · refine sEq_ne fun e => ?_
    rw [e] at hs
    exact lns_ne l ls hs.symm
theorem w_told : Words ⟨#[116, 111, 108, 100]⟩ true false false false false false := ⟨(sEq_iff _ _).2 rfl, sEq_ne (by intro e; cases e), sEq_ne (by intro e; cases e), sEq_ne (by intro e; cases e), sEq_ne (by intro e; cases e), sEq_ne (by intro e; cases e)⟩
theorem w_asked : Words ⟨#[97, 115, 107, 101, 100]⟩ false true false false false false := ⟨sEq_ne (by intro e; cases e), (sEq_iff _ _).2 rfl, sEq_ne (by intro e; cases e), sEq_ne (by intro e; cases e), sEq_ne (by intro e; cases e), sEq_ne (by intro e; cases e)⟩
theorem w_given : Words ⟨#[103, 105, 118, 101, 110]⟩ false false true false false false := ⟨sEq_ne (by intro e; cases e), sEq_ne (by intro e; cases e), (sEq_iff _ _).2 rfl, sEq_ne (by intro e; cases e), sEq_ne (by intro e; cases e), sEq_ne (by intro e; cases e)⟩
theorem w_back : Words ⟨#[98, 97, 99, 107]⟩ false false false true false false := ⟨sEq_ne (by intro e; cases e), sEq_ne (by intro e; cases e), sEq_ne (by intro e; cases e), (sEq_iff _ _).2 rfl, sEq_ne (by intro e; cases e), sEq_ne (by intro e; cases e)⟩
theorem w_gotback : Words ⟨#[103, 111, 116, 98, 97, 99, 107]⟩ false false false false true false := ⟨sEq_ne (by intro e; cases e), sEq_ne (by intro e; cases e), sEq_ne (by intro e; cases e), sEq_ne (by intro e; cases e), (sEq_iff _ _).2 rfl, sEq_ne (by intro e; cases e)⟩
theorem w_here : Words ⟨#[104, 101, 114, 101]⟩ false false false false false true := ⟨sEq_ne (by intro e; cases e), sEq_ne (by intro e; cases e), sEq_ne (by intro e; cases e), sEq_ne (by intro e; cases e), sEq_ne (by intro e; cases e), (sEq_iff _ _).2 rfl⟩
theorem dec_mk (n : Nat) : mkT (Lib.decDigits n) = dec n := text_ext (dec_lib n).symm
theorem name_no {s : T} (h : isName s = true) (b : UInt8) (hb : b.toNat < 33) : ¬ b ∈ s.data.toList := by
  intro hm
  simp only [isName, Bool.and_eq_true, List.all_eq_true] at h
  have := h.2 b hm
  simp only [nameByte, Bool.and_eq_true, decide_eq_true_eq] at this
  omega
theorem dec_no (n : Nat) (b : UInt8) (hb : b.toNat < 33) : ¬ b ∈ Lib.decDigits n := fun hm => by
  have := (dec_bytes n b hm).1
  omega
theorem no_wds {b : UInt8} (hb : b ≠ 32) {w : List UInt8} {r : List (List UInt8)} (h : ∀ x ∈ w :: r, ¬ b ∈ x) : ¬ b ∈ wds w r := by
  intro hm
  rcases List.mem_append.1 hm with hm | hm
  · exact h w List.mem_cons_self hm
  · obtain ⟨x, hx, hm⟩ := List.mem_flatMap.1 hm
    rcases List.mem_cons.1 hm with hm | hm
    · exact hb hm
    · exact h x (List.mem_cons_of_mem _ hx) hm
theorem hold_name {h : T} (k : isHold h = true) : isName h = true := by
  simp only [isHold, Bool.and_eq_true] at k
  exact k.1
theorem cutT_wds {w : List UInt8} {r : List (List UInt8)} (h : ∀ x ∈ w :: r, ¬ (32 : UInt8) ∈ x) : cutT (mkT (wds w r)) 32 = mkT w :: r.map mkT := by
  rw [cutT, mkT_data, cut_wds w r h]; rfl
def Round (s : T) (p : Parcel) : Prop := readS s = p ∧ readI s = outI s (some p) ∧ sEq s ⟨#[]⟩ = false

theorem round_asked (b : T) (h : T) (c : T) (a : Int) (hb : isName b = true) (hh : isName h = true) (hc : isName c = true) (ha : 0 ≤ a ∧ a ≤ 1000000) {s : T} (hs : s.data.toList = lns [wds [97, 115, 107, 101, 100] [b.data.toList, h.data.toList, c.data.toList, Lib.decDigits a.toNat]]) : Round s ⟨2, b, 0, [], h, c, a⟩ := by
  have n32 : ∀ x ∈ [97, 115, 107, 101, 100] :: [b.data.toList, h.data.toList, c.data.toList, Lib.decDigits a.toNat], ¬ (32 : UInt8) ∈ x := by
    intro x hx
    simp only [List.mem_cons, List.not_mem_nil, or_false] at hx
    rcases hx with rfl | rfl | rfl | rfl | rfl
    · decide
    · exact name_no hb _ (by decide)
    · exact name_no hh _ (by decide)
    · exact name_no hc _ (by decide)
    · exact dec_no _ _ (by decide)
  have n10 : ∀ x ∈ [97, 115, 107, 101, 100] :: [b.data.toList, h.data.toList, c.data.toList, Lib.decDigits a.toNat], ¬ (10 : UInt8) ∈ x := by
    intro x hx
    simp only [List.mem_cons, List.not_mem_nil, or_false] at hx
    rcases hx with rfl | rfl | rfl | rfl | rfl
    · decide
    · exact name_no hb _ (by decide)
    · exact name_no hh _ (by decide)
    · exact name_no hc _ (by decide)
    · exact dec_no _ _ (by decide)
  obtain ⟨r1, r2, r3⟩ := read_lns hs (fun x hx => by rw [List.mem_singleton.1 hx]; exact no_wds (by decide) n10)
  rw [cutT_wds n32] at r1 r2
  obtain ⟨k1, k2, k3, k4, k5, k6⟩ := w_asked
  have e0 : mkT [97, 115, 107, 101, 100] = ⟨#[97, 115, 107, 101, 100]⟩ := rfl
  have a1 := num7_dec a ha.1 ha.2
  have a2 := numT_dec a ha.1 ha.2
  refine ⟨?_, ?_, r3⟩
  · rw [r1]; simp [readWords, isAsk, readKind, atW, e0, k1, k2, k3, k4, k5, k6, dec_mk, a1, mkT_self]
  · rw [r2]; simp [wordsI, isAsk, readKind, atW, e0, k1, k2, k3, k4, k5, k6, dec_mk, a2, mkT_self]
theorem round_given (b : T) (h : T) (c : T) (a : Int) (hb : isName b = true) (hh : isName h = true) (hc : isName c = true) (ha : 0 ≤ a ∧ a ≤ 1000000) {s : T} (hs : s.data.toList = lns [wds [103, 105, 118, 101, 110] [b.data.toList, h.data.toList, c.data.toList, Lib.decDigits a.toNat]]) : Round s ⟨3, b, 0, [], h, c, a⟩ := by
  have n32 : ∀ x ∈ [103, 105, 118, 101, 110] :: [b.data.toList, h.data.toList, c.data.toList, Lib.decDigits a.toNat], ¬ (32 : UInt8) ∈ x := by
    intro x hx
    simp only [List.mem_cons, List.not_mem_nil, or_false] at hx
    rcases hx with rfl | rfl | rfl | rfl | rfl
    · decide
    · exact name_no hb _ (by decide)
    · exact name_no hh _ (by decide)
    · exact name_no hc _ (by decide)
    · exact dec_no _ _ (by decide)
  have n10 : ∀ x ∈ [103, 105, 118, 101, 110] :: [b.data.toList, h.data.toList, c.data.toList, Lib.decDigits a.toNat], ¬ (10 : UInt8) ∈ x := by
    intro x hx
    simp only [List.mem_cons, List.not_mem_nil, or_false] at hx
    rcases hx with rfl | rfl | rfl | rfl | rfl
    · decide
    · exact name_no hb _ (by decide)
    · exact name_no hh _ (by decide)
    · exact name_no hc _ (by decide)
    · exact dec_no _ _ (by decide)
  obtain ⟨r1, r2, r3⟩ := read_lns hs (fun x hx => by rw [List.mem_singleton.1 hx]; exact no_wds (by decide) n10)
  rw [cutT_wds n32] at r1 r2
  obtain ⟨k1, k2, k3, k4, k5, k6⟩ := w_given
  have e0 : mkT [103, 105, 118, 101, 110] = ⟨#[103, 105, 118, 101, 110]⟩ := rfl
  have a1 := num7_dec a ha.1 ha.2
  have a2 := numT_dec a ha.1 ha.2
  refine ⟨?_, ?_, r3⟩
  · rw [r1]; simp [readWords, isAsk, readKind, atW, e0, k1, k2, k3, k4, k5, k6, dec_mk, a1, mkT_self]
  · rw [r2]; simp [wordsI, isAsk, readKind, atW, e0, k1, k2, k3, k4, k5, k6, dec_mk, a2, mkT_self]
theorem round_back (b : T) (h : T) (c : T) (a : Int) (hb : isName b = true) (hh : isName h = true) (hc : isName c = true) (ha : 0 ≤ a ∧ a ≤ 1000000) {s : T} (hs : s.data.toList = lns [wds [98, 97, 99, 107] [b.data.toList, h.data.toList, c.data.toList, Lib.decDigits a.toNat]]) : Round s ⟨4, b, 0, [], h, c, a⟩ := by
  have n32 : ∀ x ∈ [98, 97, 99, 107] :: [b.data.toList, h.data.toList, c.data.toList, Lib.decDigits a.toNat], ¬ (32 : UInt8) ∈ x := by
    intro x hx
    simp only [List.mem_cons, List.not_mem_nil, or_false] at hx
    rcases hx with rfl | rfl | rfl | rfl | rfl
    · decide
    · exact name_no hb _ (by decide)
    · exact name_no hh _ (by decide)
    · exact name_no hc _ (by decide)
    · exact dec_no _ _ (by decide)
  have n10 : ∀ x ∈ [98, 97, 99, 107] :: [b.data.toList, h.data.toList, c.data.toList, Lib.decDigits a.toNat], ¬ (10 : UInt8) ∈ x := by
    intro x hx
    simp only [List.mem_cons, List.not_mem_nil, or_false] at hx
    rcases hx with rfl | rfl | rfl | rfl | rfl
    · decide
    · exact name_no hb _ (by decide)
    · exact name_no hh _ (by decide)
    · exact name_no hc _ (by decide)
    · exact dec_no _ _ (by decide)
  obtain ⟨r1, r2, r3⟩ := read_lns hs (fun x hx => by rw [List.mem_singleton.1 hx]; exact no_wds (by decide) n10)
  rw [cutT_wds n32] at r1 r2
  obtain ⟨k1, k2, k3, k4, k5, k6⟩ := w_back
  have e0 : mkT [98, 97, 99, 107] = ⟨#[98, 97, 99, 107]⟩ := rfl
  have a1 := num7_dec a ha.1 ha.2
  have a2 := numT_dec a ha.1 ha.2
  refine ⟨?_, ?_, r3⟩
  · rw [r1]; simp [readWords, isAsk, readKind, atW, e0, k1, k2, k3, k4, k5, k6, dec_mk, a1, mkT_self]
  · rw [r2]; simp [wordsI, isAsk, readKind, atW, e0, k1, k2, k3, k4, k5, k6, dec_mk, a2, mkT_self]
theorem round_gotback (b : T) (h : T) (a : Int) (hb : isName b = true) (hh : isName h = true) (ha : 0 ≤ a ∧ a ≤ 1000000) {s : T} (hs : s.data.toList = lns [wds [103, 111, 116, 98, 97, 99, 107] [b.data.toList, h.data.toList, Lib.decDigits a.toNat]]) : Round s ⟨5, b, 0, [], h, ⟨#[]⟩, a⟩ := by
  have n32 : ∀ x ∈ [103, 111, 116, 98, 97, 99, 107] :: [b.data.toList, h.data.toList, Lib.decDigits a.toNat], ¬ (32 : UInt8) ∈ x := by
    intro x hx
    simp only [List.mem_cons, List.not_mem_nil, or_false] at hx
    rcases hx with rfl | rfl | rfl | rfl
    · decide
    · exact name_no hb _ (by decide)
    · exact name_no hh _ (by decide)
    · exact dec_no _ _ (by decide)
  have n10 : ∀ x ∈ [103, 111, 116, 98, 97, 99, 107] :: [b.data.toList, h.data.toList, Lib.decDigits a.toNat], ¬ (10 : UInt8) ∈ x := by
    intro x hx
    simp only [List.mem_cons, List.not_mem_nil, or_false] at hx
    rcases hx with rfl | rfl | rfl | rfl
    · decide
    · exact name_no hb _ (by decide)
    · exact name_no hh _ (by decide)
    · exact dec_no _ _ (by decide)
  obtain ⟨r1, r2, r3⟩ := read_lns hs (fun x hx => by rw [List.mem_singleton.1 hx]; exact no_wds (by decide) n10)
  rw [cutT_wds n32] at r1 r2
  obtain ⟨k1, k2, k3, k4, k5, k6⟩ := w_gotback
  have e0 : mkT [103, 111, 116, 98, 97, 99, 107] = ⟨#[103, 111, 116, 98, 97, 99, 107]⟩ := rfl
  have a1 := num7_dec a ha.1 ha.2
  have a2 := numT_dec a ha.1 ha.2
  refine ⟨?_, ?_, r3⟩
  · rw [r1]; simp [readWords, isAsk, readKind, atW, e0, k1, k2, k3, k4, k5, k6, dec_mk, a1, mkT_self]
  · rw [r2]; simp [wordsI, isAsk, readKind, atW, e0, k1, k2, k3, k4, k5, k6, dec_mk, a2, mkT_self]
theorem round_here (b : T) (a : Int) (hb : isName b = true) (ha : 0 ≤ a ∧ a ≤ 1000000) {s : T} (hs : s.data.toList = lns [wds [104, 101, 114, 101] [b.data.toList, Lib.decDigits a.toNat]]) : Round s ⟨6, b, a, [], ⟨#[]⟩, ⟨#[]⟩, 0⟩ := by
  have n32 : ∀ x ∈ [104, 101, 114, 101] :: [b.data.toList, Lib.decDigits a.toNat], ¬ (32 : UInt8) ∈ x := by
    intro x hx
    simp only [List.mem_cons, List.not_mem_nil, or_false] at hx
    rcases hx with rfl | rfl | rfl
    · decide
    · exact name_no hb _ (by decide)
    · exact dec_no _ _ (by decide)
  have n10 : ∀ x ∈ [104, 101, 114, 101] :: [b.data.toList, Lib.decDigits a.toNat], ¬ (10 : UInt8) ∈ x := by
    intro x hx
    simp only [List.mem_cons, List.not_mem_nil, or_false] at hx
    rcases hx with rfl | rfl | rfl
    · decide
    · exact name_no hb _ (by decide)
    · exact dec_no _ _ (by decide)
  obtain ⟨r1, r2, r3⟩ := read_lns hs (fun x hx => by rw [List.mem_singleton.1 hx]; exact no_wds (by decide) n10)
  rw [cutT_wds n32] at r1 r2
  obtain ⟨k1, k2, k3, k4, k5, k6⟩ := w_here
  have e0 : mkT [104, 101, 114, 101] = ⟨#[104, 101, 114, 101]⟩ := rfl
  have a1 := num7_dec a ha.1 ha.2
  have a2 := numT_dec a ha.1 ha.2
  refine ⟨?_, ?_, r3⟩
  · rw [r1]; simp [readWords, isAsk, readKind, atW, e0, k1, k2, k3, k4, k5, k6, dec_mk, a1, mkT_self]
  · rw [r2]; simp [wordsI, isAsk, readKind, atW, e0, k1, k2, k3, k4, k5, k6, dec_mk, a2, mkT_self]
/-! ### Wants -/
def wantLine (w : Want) : List UInt8 := wds [119, 97, 110, 116] [w.copy.data.toList, Lib.decDigits w.version.toNat, (starOr w.hold).data.toList, Lib.decDigits w.pull.toNat, Lib.decDigits w.start.toNat, Lib.decDigits w.dies.toNat, Lib.decDigits w.grace.toNat]
theorem formWant_data (w : Want) : (formWant w).data.toList = wantLine w ++ [10] := by
  simp [formWant, text_append, dec_lib, wantLine, wds]
theorem formWants_data : ∀ (ws : List Want) (acc : T), (formWants acc ws).data.toList = acc.data.toList ++ lns (ws.map wantLine)
  | [], acc => by simp [formWants, lns]
  | w :: ws, acc => by rw [formWants, formWants_data ws, text_append, formWant_data]; simp [lns]
theorem star_no {h : T} (k : (sEq h ⟨#[]⟩ || isHold h) = true) (b : UInt8) (hb : b.toNat < 33) : ¬ b ∈ (starOr h).data.toList := by
  unfold starOr
  split
  · intro hm
    have : b = 42 := by simpa using hm
    subst this
    exact absurd hb (by decide)
  · rename_i hn
    rcases Bool.or_eq_true_iff.1 k with k | k
    · exact absurd k hn
    · exact name_no (hold_name k) b hb
theorem unstar_star {h : T} (k : sEq h ⟨#[42]⟩ = false) : unstar (starOr h) = h := by
  unfold starOr
  by_cases e : sEq h ⟨#[]⟩ = true
  · rw [if_pos e, (sEq_iff _ _).1 e]
    have : sEq ⟨#[42]⟩ ⟨#[42]⟩ = true := (sEq_iff _ _).2 rfl
    simp [unstar, this]
  · rw [if_neg e, unstar, k]
    rfl
theorem wantLine_no {w : Want} (h : wantOk w = true) (b : UInt8) (hb : b.toNat < 32) : ¬ b ∈ wantLine w := by
  have hc : isName w.copy = true := by simp only [wantOk, Bool.and_eq_true] at h; exact h.1.1.1.1.1.1
  have hh : (sEq w.hold ⟨#[]⟩ || isHold w.hold) = true := by simp only [wantOk, Bool.and_eq_true] at h; exact h.1.1.1.1.2
  refine no_wds (fun e => by subst e; exact absurd hb (by decide)) fun x hx => ?_
  simp only [List.mem_cons, List.not_mem_nil, or_false] at hx
  rcases hx with rfl | rfl | rfl | rfl | rfl | rfl | rfl | rfl
  · intro hm
    simp only [List.mem_cons, List.not_mem_nil, or_false] at hm
    rcases hm with rfl | rfl | rfl | rfl <;> exact absurd hb (by decide)
  · exact name_no hc b (by omega)
  · exact dec_no _ b (by omega)
  · exact star_no hh b (by omega)
  all_goals exact dec_no _ b (by omega)
theorem want_words {w : Want} (h : wantOk w = true) : cutT (mkT (wantLine w)) 32 = [⟨#[119, 97, 110, 116]⟩, w.copy, dec w.version.toNat, starOr w.hold, dec w.pull.toNat, dec w.start.toNat, dec w.dies.toNat, dec w.grace.toNat] := by
  have hc : isName w.copy = true := by simp only [wantOk, Bool.and_eq_true] at h; exact h.1.1.1.1.1.1
  have hh : (sEq w.hold ⟨#[]⟩ || isHold w.hold) = true := by simp only [wantOk, Bool.and_eq_true] at h; exact h.1.1.1.1.2
  rw [wantLine, cutT_wds]
  · simp [dec_mk, mkT_self]; rfl
  · intro x hx
    simp only [List.mem_cons, List.not_mem_nil, or_false] at hx
    rcases hx with rfl | rfl | rfl | rfl | rfl | rfl | rfl | rfl
    · decide
    · exact name_no hc _ (by decide)
    · exact dec_no _ _ (by decide)
    · exact star_no hh _ (by decide)
    all_goals exact dec_no _ _ (by decide)
theorem want_read {w : Want} (h : wantOk w = true) : readWant (cutT (mkT (wantLine w)) 32) = w ∧ wantI (cutT (mkT (wantLine w)) 32) = w ∧ lineOk (cutT (mkT (wantLine w)) 32) = true := by
  obtain ⟨_, _, f1, f2, f3, f4, f5⟩ := wantOk_fits h
  have hs := unstar_star (wantOk_star h)
  have e : sEq ⟨#[119, 97, 110, 116]⟩ ⟨#[119, 97, 110, 116]⟩ = true := (sEq_iff _ _).2 rfl
  rw [want_words h]
  refine ⟨?_, ?_, ?_⟩
  · simp [readWant, atW, num7_dec _ f1.1 f1.2, num7_dec _ f2.1 f2.2, num7_dec _ f3.1 f3.2, num7_dec _ f4.1 f4.2, num7_dec _ f5.1 f5.2, hs]
  · simp [wantI, atW, numT_dec _ f1.1 f1.2, numT_dec _ f2.1 f2.2, numT_dec _ f3.1 f3.2, numT_dec _ f4.1 f4.2, numT_dec _ f5.1 f5.2, hs]
  · simp [lineOk, atW, e]
theorem lines_want : ∀ (ws acc : List Want), (∀ w ∈ ws, wantOk w = true) → linesI acc ((ws.map wantLine).map mkT) = some (acc ++ ws)
  | [], acc, _ => by simp [linesI]
  | w :: ws, acc, h => by
    obtain ⟨_, h2, h3⟩ := want_read (h w List.mem_cons_self)
    rw [List.map_cons, List.map_cons, linesI, h3, if_pos rfl, h2, lines_want ws _ (fun x hx => h x (List.mem_cons_of_mem _ hx)), List.append_assoc]; rfl
theorem lines_read (ws : List Want) (h : ∀ w ∈ ws, wantOk w = true) : readLines ((ws.map wantLine).map mkT ++ [⟨#[]⟩]) = ws := by
  rw [readLines, List.dropLast_concat, List.map_map, List.map_map]
  conv => rhs; rw [← List.map_id ws]
  exact List.map_congr_left fun w hw => (want_read (h w hw)).1

theorem round_told (b : T) (a : Int) (ws : List Want) (hb : isName b = true) (ha : 0 ≤ a ∧ a ≤ 1000000) (hw : ∀ w ∈ ws, wantOk w = true) {s : T} (hs : s.data.toList = lns (wds [116, 111, 108, 100] [b.data.toList, Lib.decDigits a.toNat] :: ws.map wantLine)) : Round s ⟨1, b, a, ws, ⟨#[]⟩, ⟨#[]⟩, 0⟩ := by
  have n32 : ∀ x ∈ [116, 111, 108, 100] :: [b.data.toList, Lib.decDigits a.toNat], ¬ (32 : UInt8) ∈ x := by
    intro x hx
    simp only [List.mem_cons, List.not_mem_nil, or_false] at hx
    rcases hx with rfl | rfl | rfl
    · decide
    · exact name_no hb _ (by decide)
    · exact dec_no _ _ (by decide)
  have n10 : ∀ x ∈ [116, 111, 108, 100] :: [b.data.toList, Lib.decDigits a.toNat], ¬ (10 : UInt8) ∈ x := by
    intro x hx
    simp only [List.mem_cons, List.not_mem_nil, or_false] at hx
    rcases hx with rfl | rfl | rfl
    · decide
    · exact name_no hb _ (by decide)
    · exact dec_no _ _ (by decide)
  obtain ⟨r1, r2, r3⟩ := read_lns hs (fun x hx => by
    rcases List.mem_cons.1 hx with hx | hx
    · rw [hx]; exact no_wds (by decide) n10
    · obtain ⟨w, h1, rfl⟩ := List.mem_map.1 hx
      exact wantLine_no (hw w h1) _ (by decide))
  rw [cutT_wds n32] at r1 r2
  obtain ⟨k1, k2, k3, k4, k5, k6⟩ := w_told
  have e0 : mkT [116, 111, 108, 100] = ⟨#[116, 111, 108, 100]⟩ := rfl
  have a1 := num7_dec a ha.1 ha.2
  have a2 := numT_dec a ha.1 ha.2
  have l1 := lines_read ws hw
  have l2 := lines_want ws [] hw
  refine ⟨?_, ?_, r3⟩
  · rw [r1, readWords, l1]; simp [atW, e0, k1, dec_mk, a1, mkT_self]
  · rw [r2, wordsI, l2]; simp [atW, e0, k1, dec_mk, a2, mkT_self]

/-! ### Both ways -/
theorem round {s : T} {p : Parcel} (hp : parcelForm p = s) (hs : s ≠ ⟨#[]⟩) : Round s p := by
  obtain ⟨kind, b, seen, ws, h, c, a⟩ := p
  unfold parcelForm at hp
  simp only at hp
  split at hp
  case isFalse => exact absurd hp.symm hs
  rename_i hb
  unfold formSw at hp
  simp only at hp
  split at hp
  · rename_i hk
    split at hp
    case isFalse => exact absurd hp.symm hs
    rename_i hc
    simp only [Bool.and_eq_true, noHold, beq_iff_eq] at hc
    obtain ⟨c1, c2, c3, c4, c5⟩ := hc
    have c3 := (sEq_iff _ _).1 c3
    have c4 := (sEq_iff _ _).1 c4
    subst hk; subst c3; subst c4; subst c5
    obtain ⟨i1, i2⟩ := inR_le c1
    refine round_told b seen ws hb ⟨by omega, by omega⟩ ((wantsOk_iff _).1 c2).2.1 ?_
    rw [← hp, formWants_data]
    simp [toldHead, text_append, dec_lib, lns, wds]
  · split at hp
    · rename_i hk
      split at hp
      case isFalse => exact absurd hp.symm hs
      rename_i hc
      simp only [Bool.and_eq_true, beq_iff_eq, List.isEmpty_iff] at hc
      obtain ⟨c1, c2, c3, c4, c5⟩ := hc
      subst c4; subst c5
      obtain ⟨i1, i2⟩ := inR_le c3
      rcases hk with rfl | rfl | rfl
      · refine round_asked b h c a hb (hold_name c1) c2 ⟨i1, i2⟩ ?_
        rw [← hp]
        simp [word, text_append, dec_lib, lns, wds]
      · refine round_given b h c a hb (hold_name c1) c2 ⟨i1, i2⟩ ?_
        rw [← hp]
        simp [word, text_append, dec_lib, lns, wds]
      · refine round_back b h c a hb (hold_name c1) c2 ⟨i1, i2⟩ ?_
        rw [← hp]
        simp [word, text_append, dec_lib, lns, wds]
    · split at hp
      · rename_i hk
        split at hp
        case isFalse => exact absurd hp.symm hs
        rename_i hc
        simp only [Bool.and_eq_true, beq_iff_eq, List.isEmpty_iff] at hc
        obtain ⟨c1, c2, c3, c4, c5⟩ := hc
        have c2 := (sEq_iff _ _).1 c2
        subst hk; subst c2; subst c4; subst c5
        obtain ⟨i1, i2⟩ := inR_le c3
        refine round_gotback b h a hb (hold_name c1) ⟨i1, i2⟩ ?_
        rw [← hp]
        simp [text_append, dec_lib, lns, wds]
      · split at hp
        · rename_i hk
          split at hp
          case isFalse => exact absurd hp.symm hs
          rename_i hc
          simp only [Bool.and_eq_true, beq_iff_eq, List.isEmpty_iff, noHold] at hc
          obtain ⟨c1, c2, c3, c4, c5⟩ := hc
          have c3 := (sEq_iff _ _).1 c3
          have c4 := (sEq_iff _ _).1 c4
          subst hk; subst c2; subst c3; subst c4; subst c5
          obtain ⟨i1, i2⟩ := inR_le c1
          refine round_here b seen hb ⟨i1, i2⟩ ?_
          rw [← hp]
          simp [text_append, dec_lib, lns, wds]
        · exact absurd hp.symm hs

/-- The program reads as the reference does. -/
theorem readI_readT (s : T) : readI s = readT s := by
  by_cases hg : s ≠ ⟨#[]⟩ ∧ parcelForm (readS s) = s
  · obtain ⟨h1, h2⟩ := hg
    obtain ⟨r1, r2, r3⟩ := round h2 h1
    rw [r2, readT, r3, h2, outI, h2, (sEq_iff s s).2 rfl]
    rfl
  · have hT : readT s = (noParcel, false) := by
      rw [readT, if_pos]
      by_cases h1 : s = ⟨#[]⟩
      · rw [(sEq_iff _ _).2 h1]; rfl
      · rw [sEq_ne (fun e => hg ⟨h1, e⟩)]; simp
    rw [hT, readI]
    split
    · rename_i hsx
      cases hq : wordsI (atW (cutT (atW (cutT (s.extract 0 (s.size - 1)) 10) 0) 32) 0) (cutT (atW (cutT (s.extract 0 (s.size - 1)) 10) 0) 32) (cutT (s.extract 0 (s.size - 1)) 10).tail with
      | none => rfl
      | some q =>
        rw [outI]
        split
        · rename_i hf
          have hf := (sEq_iff _ _).1 hf
          have hne : s ≠ ⟨#[]⟩ := fun e => by
            rw [e] at hsx
            cases hsx
          obtain ⟨r1, _, _⟩ := round hf hne
          exact absurd ⟨hne, by rw [r1]; exact hf⟩ hg
        · rfl
    · rfl
/-- What is written is read back. -/
theorem readT_form {p : Parcel} (h : parcelForm p ≠ ⟨#[]⟩) : readT (parcelForm p) = (p, true) := by
  obtain ⟨r1, _, r3⟩ := round (p := p) rfl h
  rw [readT, r1, r3, (sEq_iff _ _).2 rfl]
  rfl

end Go.Proofs.YtaikddhcplfpmaaGreatDoor

namespace Go.Proofs.YtaikddhcplfpmaaGreatDoor
open Go
set_option linter.unusedSimpArgs false
set_option maxRecDepth 100000

theorem eqsWant (a : Want) : eqCells [.s, .i, .s, .i, .i, .i, .i] a.c a.c = some true := by
  simp [eqCells, eqCell]
  exact (eqWant_iff a a).2 rfl

def headWWant (m m' : Md) (xs : List Want) (i : Nat) : St := hd [(0, .sl m 7 (xs.map Want.c)), (1, .sl m' 7 (xs.map Want.c)), (5, .int .i64 i)] [] 0

theorem law118 (xs : List Want) (hl : xs.length ≤ 1048576) : F 118 [.sl .bor 7 (xs.map Want.c), .sl .bor 7 (xs.map Want.c)] [] = some (.bool true, []) := by
  refine F_run fn118 rfl ?_
  simp [c118]
  refine (loop_list xs (fun i (_ : Unit) => headWWant .bor .bor xs i) (fun _ _ => True) (fun _ _ _ => (.bool true, [])) (fun acc Y _ => ?_) (fun i a r acc Y ha hi hr _ hY => ?_) () ?_ trivial ?_).trans rfl
  · simp [headWWant, c118b0]
  · have hw : IntKind.i64.wrap ((i : Int) + 1) = (i : Int) + 1 := i64w (by omega) (by omega)
    obtain ⟨_, hg⟩ := List.getElem?_eq_some_iff.1 ha
    have he := eqsWant a
    simp only [Want.c] at he
    simp [headWWant, c118b0, hi, hg, he]
    refine hY () _ trivial ?_
    simp [headWWant, hw]
  · simp [headWWant]
  · unfold big; omega

theorem eqsRun (a : Run) : eqCells [.s, .i, .s, .i, .i, .i, .i, .i, .i, .i, .i] a.c a.c = some true := by simp [eqCells, eqCell]

def headWRun (m m' : Md) (xs : List Run) (i : Nat) : St := hd [(0, .sl m 11 (xs.map Run.c)), (1, .sl m' 11 (xs.map Run.c)), (5, .int .i64 i)] [] 0

theorem eqsAsk (a : Ask) : eqCells [.s, .s, .i, .i] a.c a.c = some true := by simp [eqCells, eqCell]

def headWAsk (m m' : Md) (xs : List Ask) (i : Nat) : St := hd [(0, .sl m 4 (xs.map Ask.c)), (1, .sl m' 4 (xs.map Ask.c)), (5, .int .i64 i)] [] 0

end Go.Proofs.YtaikddhcplfpmaaGreatDoor

namespace Go.Proofs.YtaikddhcplfpmaaGreatDoor
open Go
set_option linter.unusedSimpArgs false
set_option maxRecDepth 100000

theorem law267 (bs : List Int) (p : Int) (hb : Code bs) (h0 : 0 ≤ p) (hp : p ≤ 800000000) : Ends (F 267 [.ptr 0 0 0] [rdBox bs p]) (Drew bs p 40 fun x => ∃ q : Parcel, x = .agg (q.c .own) ∧ q.wants.length ≤ 5) := by
  refine F_ends fn267 rfl ?_
  obtain ⟨a1, a2, a3⟩ := law89 bs p 6 hb h0 (by omega) (by omega)
  obtain ⟨b1, b2, b3⟩ := law89 bs (p + 1) 9 hb (by omega) (by omega) (by omega)
  obtain ⟨c1, c2, c3⟩ := law89 bs (p + 1) 99 hb (by omega) (by omega) (by omega)
  obtain ⟨d1, d2, d3⟩ := law89 bs (p + 1) 3 hb (by omega) (by omega) (by omega)
  obtain ⟨e1, e2, e3⟩ := law89 bs (p + 2) 99 hb (by omega) (by omega) (by omega)
  rw [show p + 1 + 1 = p + 2 by omega] at b1 c1 d1
  rw [show p + 2 + 1 = p + 3 by omega] at e1
  have b4 := b3 (by omega)
  have d4 := d3 (by omega)
  have hQ : ∀ p' : Int, p ≤ p' → p' ≤ p + 40 → ∀ q : Parcel, q.wants.length ≤ 5 → Drew bs p 40 (fun x => ∃ q : Parcel, x = .agg (q.c .own) ∧ q.wants.length ≤ 5) (.agg (q.c .own), [some (rdBox bs p')]) := fun p' h1 h2 q h3 => ⟨_, p', rfl, h1, h2, q, rfl, h3⟩
  simp only [rdBox] at a1 b1 c1 d1 e1
  by_cases k0 : pickV bs p 6 = 0 ∨ pickV bs p 6 = 1
  · obtain ⟨_, f1, x, p2, rfl, f2, f3, ws, rfl, f4, f5⟩ := law145 bs (p + 2) hb (by omega) (by omega)
    have w1 : IntKind.i64.wrap (1 + pickV bs (p + 1) 9) = 1 + pickV bs (p + 1) 9 := i64w (by omega) (by omega)
    have q := hQ p2 (by omega) (by omega) ⟨1, ⟨#[97]⟩, 1 + pickV bs (p + 1) 9, ws, ⟨#[]⟩, ⟨#[]⟩, 0⟩ (by show ws.length ≤ 5; omega)
    simp only [rdBox, Parcel.c] at f1 q
    rcases k0 with k0 | k0 <;> simp [c267, rdBox, a1, k0, b1, f1, w1] <;> simpa using q
  obtain ⟨k0, k1⟩ := not_or.1 k0
  by_cases k2 : pickV bs p 6 = 2
  · have q := hQ (p + 2) (by omega) (by omega) ⟨5, ⟨#[98]⟩, 0, [], ⟨#[118, 111, 108]⟩, ⟨#[]⟩, pickV bs (p + 1) 99⟩ (Nat.zero_le _)
    simp only [rdBox, Parcel.c] at q
    simp [c267, rdBox, a1, k0, k1, k2, c1]
    simpa using q
  by_cases k3 : pickV bs p 6 = 3
  · have q := hQ (p + 2) (by omega) (by omega) ⟨6, ⟨#[98]⟩, pickV bs (p + 1) 9, [], ⟨#[]⟩, ⟨#[]⟩, 0⟩ (Nat.zero_le _)
    simp only [rdBox, Parcel.c] at q
    simp [c267, rdBox, a1, k0, k1, k2, k3, b1]
    simpa using q
  · have w1 : IntKind.i64.wrap (2 + pickV bs (p + 1) 3) = 2 + pickV bs (p + 1) 3 := i64w (by omega) (by omega)
    have q := hQ (p + 3) (by omega) (by omega) ⟨2 + pickV bs (p + 1) 3, ⟨#[97]⟩, 0, [], ⟨#[118, 111, 108]⟩, ⟨#[99, 49]⟩, pickV bs (p + 2) 99⟩ (Nat.zero_le _)
    simp only [rdBox, Parcel.c] at q
    simp [c267, rdBox, a1, k0, k1, k2, k3, d1, e1, w1]
    simpa using q

/-- Two parcels alike. -/
theorem law143 (p : Parcel) (hp : p.small) : F 143 [.agg (p.c .bor), .agg (p.c .bor)] [] = some (.bool true, []) := by
  refine F_run fn143 rfl ?_
  have w := law118 p.wants hp.wants
  have e1 : sEq p.berth p.berth = true := (sEq_iff _ _).2 rfl
  have e2 : sEq p.hold p.hold = true := (sEq_iff _ _).2 rfl
  have e3 : sEq p.copy p.copy = true := (sEq_iff _ _).2 rfl
  simp [c143, w, e1, e2, e3]

/-- A text bent at one place. -/
theorem law189 (bs : List Int) (p : Int) (s : T) (hb : Code bs) (h0 : 0 ≤ p) (hp : p ≤ 800000000) (hs : s.size ≤ 10000) : Ends (F 189 [.ptr 0 0 0, .str s] [rdBox bs p]) (Drew bs p 3 fun x => ∃ u : T, x = .str u ∧ u.size ≤ 20001) := by
  refine F_ends fn189 rfl ?_
  obtain ⟨a1, a2, a3⟩ := law89 bs p 256 hb h0 (by omega) (by omega)
  obtain ⟨b1, b2, b3⟩ := law89 bs (p + 1) 5 hb (by omega) (by omega) (by omega)
  obtain ⟨c1, c2, c3⟩ := law89 bs (p + 2) 5 hb (by omega) (by omega) (by omega)
  obtain ⟨d1, d2, d3⟩ := law89 bs (p + 2) 8 hb (by omega) (by omega) (by omega)
  rw [show p + 1 + 1 = p + 2 by omega] at b1
  rw [show p + 2 + 1 = p + 3 by omega] at c1 d1
  have a4 := a3 (by omega)
  have c4 := c3 (by omega)
  have d4 := d3 (by omega)
  have hQ : ∀ p' : Int, p ≤ p' → p' ≤ p + 3 → ∀ u : T, u.size ≤ 20001 → Drew bs p 3 (fun x => ∃ u : T, x = .str u ∧ u.size ≤ 20001) (.str u, [some (rdBox bs p')]) := fun p' h1 h2 u h3 => ⟨_, p', rfl, h1, h2, u, rfl, h3⟩
  have m1 : pickV bs p 256 * ((s.size : Int) + 1) ≤ 255 * ((s.size : Int) + 1) := Int.mul_le_mul_of_nonneg_right (by omega) (by omega)
  have m2 : 0 ≤ pickV bs p 256 * ((s.size : Int) + 1) := Int.mul_nonneg a2 (by omega)
  have w1 : IntKind.i64.wrap ((s.size : Int) + 1) = (s.size : Int) + 1 := i64w (by omega) (by omega)
  have w2 : IntKind.i64.wrap (pickV bs p 256 * ((s.size : Int) + 1)) = pickV bs p 256 * ((s.size : Int) + 1) := i64w (by omega) (by omega)
  obtain ⟨i, hi⟩ : ∃ i : Nat, Int.tdiv (pickV bs p 256 * ((s.size : Int) + 1)) 256 = i := ⟨(pickV bs p 256 * ((s.size : Int) + 1) / 256).toNat, by rw [Int.tdiv_eq_ediv_of_nonneg m2]; omega⟩
  have hile : i ≤ s.size := by rw [Int.tdiv_eq_ediv_of_nonneg m2] at hi; omega
  have w3 : IntKind.i64.wrap (i : Int) = i := i64w (by omega) (by omega)
  have hiI : (i : Int) ≤ s.size := by omega
  have x1 : ∀ a b, (s.extract a b).size ≤ s.size := fun a b => by rw [ByteArray.size_extract]; omega
  simp only [rdBox] at a1 b1 c1 d1
  by_cases k0 : pickV bs (p + 1) 5 = 0
  · have q := hQ (p + 2) (by omega) (by omega) (s.extract 0 i) (by have := x1 0 i; omega)
    simp only [rdBox] at q
    simp [c189, rdBox, a1, b1, k0, w1, w2, hi, w3, hiI, slBounds]
    simpa using q
  by_cases k1 : pickV bs (p + 1) 5 = 1
  · have hz := selT_le (l := [⟨#[32]⟩, ⟨#[10]⟩, ⟨#[48]⟩, ⟨#[120]⟩, ⟨#[42]⟩]) (n := 1) (by intro x hx; simp only [List.mem_cons, List.not_mem_nil, or_false] at hx; rcases hx with rfl | rfl | rfl | rfl | rfl <;> exact Nat.le_refl _) (pickV bs (p + 2) 5)
    have f1 : min i s.size + (selT [⟨#[32]⟩, ⟨#[10]⟩, ⟨#[48]⟩, ⟨#[120]⟩, ⟨#[42]⟩] (pickV bs (p + 2) 5)).size ≤ 9223372036854775807 := by omega
    have f2 : min i s.size + (selT [⟨#[32]⟩, ⟨#[10]⟩, ⟨#[48]⟩, ⟨#[120]⟩, ⟨#[42]⟩] (pickV bs (p + 2) 5)).size + (s.size - i) ≤ 9223372036854775807 := by omega
    have q := hQ (p + 3) (by omega) (by omega) (s.extract 0 i ++ selT [⟨#[32]⟩, ⟨#[10]⟩, ⟨#[48]⟩, ⟨#[120]⟩, ⟨#[42]⟩] (pickV bs (p + 2) 5) ++ s.extract i s.size) (by rw [app_size, app_size]; have := x1 0 i; have := x1 i s.size; omega)
    simp only [rdBox] at q
    simp [c189, rdBox, a1, b1, k0, k1, w1, w2, hi, w3, hiI, slBounds, c1, c2, c4, f1, f2]
    simpa using q
  by_cases k2 : pickV bs (p + 1) 5 = 2
  · by_cases hl : i < s.size
    · have hlI : (i : Int) < s.size := by omega
      have w4 : IntKind.i64.wrap ((i : Int) + 1) = (i : Int) + 1 := i64w (by omega) (by omega)
      have f1 : min i s.size + (s.size - (i + 1)) ≤ 9223372036854775807 := by omega
      have f3 : (i : Int) + 1 ≤ s.size := by omega
      have f4 : (0 : Int) ≤ (i : Int) + 1 := by omega
      have q := hQ (p + 2) (by omega) (by omega) (s.extract 0 i ++ s.extract (i + 1) s.size) (by rw [app_size]; have := x1 0 i; have := x1 (i + 1) s.size; omega)
      simp only [rdBox] at q
      simp [c189, rdBox, a1, b1, k0, k1, k2, w1, w2, hi, w3, w4, hiI, hl, hlI, slBounds, f1, f3, f4]
      simpa using q
    · have hlI : ¬ (i : Int) < s.size := by omega
      have f1 : s.size + (s.size - i) ≤ 9223372036854775807 := by omega
      have q := hQ (p + 2) (by omega) (by omega) (s ++ s.extract i s.size) (by rw [app_size]; have := x1 i s.size; omega)
      simp only [rdBox] at q
      simp [c189, rdBox, a1, b1, k0, k1, k2, w1, w2, hi, w3, hiI, hl, hlI, slBounds, f1]
      simpa using q
  by_cases k3 : pickV bs (p + 1) 5 = 3
  · by_cases hl : i < s.size
    · have hlI : (i : Int) < s.size := by omega
      have w4 : IntKind.i64.wrap ((i : Int) + 1) = (i : Int) + 1 := i64w (by omega) (by omega)
      have f3 : (i : Int) + 1 ≤ s.size := by omega
      have f4 : (0 : Int) ≤ (i : Int) + 1 := by omega
      have v1 : IntKind.u64.wrap (pickV bs (p + 2) 8) = pickV bs (p + 2) 8 := by
        rw [IntKind.wrap_u64]; omega
      have v2 : ¬ pickV bs (p + 2) 8 < 0 := by omega
      obtain ⟨e, he⟩ : ∃ e, IntKind.i64.wrap (2 ^ min (pickV bs (p + 2) 8).toNat IntKind.i64.bits) = e := ⟨_, rfl⟩
      obtain ⟨y, hy⟩ : ∃ y, IntKind.u8.wrap (IntKind.i64.wrap (((IntKind.i64.wrap (s.data[i]'hl).toNat % 2 ^ IntKind.i64.bits).toNat ^^^ (e % 2 ^ IntKind.i64.bits).toNat : Nat) : Int)) = y := ⟨_, rfl⟩
      have hz : (⟨#[UInt8.ofNat y.toNat]⟩ : T).size = 1 := rfl
      have f5 : min i s.size + (⟨#[UInt8.ofNat y.toNat]⟩ : T).size ≤ 9223372036854775807 := by omega
      have f6 : min i s.size + (⟨#[UInt8.ofNat y.toNat]⟩ : T).size + (s.size - (i + 1)) ≤ 9223372036854775807 := by omega
      have q := hQ (p + 3) (by omega) (by omega) (s.extract 0 i ++ ⟨#[UInt8.ofNat y.toNat]⟩ ++ s.extract (i + 1) s.size) (by rw [app_size, app_size]; have := x1 0 i; have := x1 (i + 1) s.size; omega)
      simp only [rdBox] at q
      simp [c189, rdBox, a1, b1, k0, k1, k2, k3, w1, w2, hi, w3, w4, hiI, hl, hlI, slBounds, d1, d2, d4, f3, f4, v1, v2, he, hy, toBytes, f5, f6]
      simpa using q
    · have hlI : ¬ (i : Int) < s.size := by omega
      have f1 : s.size + (s.size - i) ≤ 9223372036854775807 := by omega
      have q := hQ (p + 2) (by omega) (by omega) (s ++ s.extract i s.size) (by rw [app_size]; have := x1 i s.size; omega)
      simp only [rdBox] at q
      simp [c189, rdBox, a1, b1, k0, k1, k2, k3, w1, w2, hi, w3, hiI, hl, hlI, slBounds, f1]
      simpa using q
  · have f1 : s.size + (s.size - i) ≤ 9223372036854775807 := by omega
    have q := hQ (p + 2) (by omega) (by omega) (s ++ s.extract i s.size) (by rw [app_size]; have := x1 i s.size; omega)
    simp only [rdBox] at q
    simp [c189, rdBox, a1, b1, k0, k1, k2, k3, w1, w2, hi, w3, hiI, slBounds, f1]
    simpa using q
end Go.Proofs.YtaikddhcplfpmaaGreatDoor

namespace Go.Proofs.YtaikddhcplfpmaaGreatDoor
open Go
set_option linter.unusedSimpArgs false
set_option maxRecDepth 100000

theorem formWants_size : ∀ (ws : List Want) (acc : T), (∀ w ∈ ws, wantOk w = true) → (formWants acc ws).size ≤ acc.size + 90 * ws.length
  | [], acc, _ => by simp [formWants]
  | w :: ws, acc, h => by
    rw [formWants]
    have := formWants_size ws (acc ++ formWant w) (fun x hx => h x (List.mem_cons_of_mem _ hx))
    have h2 := formWant_size (wantOk_fits (h w List.mem_cons_self))
    rw [app_size] at this
    simp only [List.length_cons]
    omega

theorem parcelForm_size (p : Parcel) : (parcelForm p).size ≤ 3000 := by
  have z0 : (⟨#[]⟩ : T).size = 0 := rfl
  have z1 : (⟨#[32]⟩ : T).size = 1 := rfl
  have z2 : (⟨#[10]⟩ : T).size = 1 := rfl
  unfold parcelForm
  split
  case isFalse => omega
  rename_i hb
  have hbs := isName_size hb
  unfold formSw
  split
  · split
    case isFalse => omega
    rename_i hc
    simp only [Bool.and_eq_true] at hc
    obtain ⟨c1, c2, c3⟩ := hc
    obtain ⟨i1, i2⟩ := inR_le c1
    obtain ⟨w1, w2, _⟩ := (wantsOk_iff _).1 c2
    have hd := (law140' p.seen (by omega) (by omega)).2
    have := formWants_size p.wants (toldHead p) w2
    have h5 : (⟨#[116, 111, 108, 100, 32]⟩ : T).size = 5 := rfl
    have ht : (toldHead p).size ≤ 100 := by
      unfold toldHead
      simp only [app_size]
      omega
    omega
  · split
    · split
      case isFalse => omega
      rename_i hc
      simp only [Bool.and_eq_true] at hc
      obtain ⟨c1, c2, c3, c4, c5⟩ := hc
      obtain ⟨i1, i2⟩ := inR_le c3
      have hd := (law140' p.at_ i1 i2).2
      have hh := isName_size (hold_name c1)
      have hk := isName_size c2
      have hw : (word p.kind).size ≤ 10 := by
        unfold word
        split
        · decide
        · split <;> decide
      simp only [app_size]
      omega
    · split
      · split
        case isFalse => omega
        rename_i hc
        simp only [Bool.and_eq_true] at hc
        obtain ⟨c1, c2, c3, c4, c5⟩ := hc
        obtain ⟨i1, i2⟩ := inR_le c3
        have hd := (law140' p.at_ i1 i2).2
        have hh := isName_size (hold_name c1)
        have h5 : (⟨#[103, 111, 116, 98, 97, 99, 107, 32]⟩ : T).size = 8 := rfl
        simp only [app_size]
        omega
      · split
        · split
          case isFalse => omega
          rename_i hc
          simp only [Bool.and_eq_true] at hc
          obtain ⟨c1, c2, c3⟩ := hc
          obtain ⟨i1, i2⟩ := inR_le c1
          have hd := (law140' p.seen i1 i2).2
          have h5 : (⟨#[104, 101, 114, 101, 32]⟩ : T).size = 5 := rfl
          simp only [app_size]
          omega
        · omega

theorem law265 (bs : List Int) (hl : bs.length ≤ 1000000000) (h : ∀ b ∈ bs, 0 ≤ b ∧ b ≤ 255) : ∃ u : T, F 265 [.sl .imm 1 (bs.map rowB)] [] = some (.str u, []) ∧ u.size ≤ 100000 := by
  have hb := Code.take h
  have w0 := law91 bs hl
  generalize bs.take 2000 = cs at hb w0
  obtain ⟨_, c1, x1, p1, rfl, c2, c3, q, rfl, hq⟩ := law267 cs 0 hb (by omega) (by omega)
  obtain ⟨a1, a2, a3⟩ := law89 cs p1 2 hb (by omega) (by omega) (by omega)
  have f := law236 q ⟨by omega⟩
  have fs := parcelForm_size q
  obtain ⟨_, e1, x2, p2, rfl, e2, e3, u, rfl, hu⟩ := law189 cs (p1 + 1) (parcelForm q) hb (by omega) (by omega) (by omega)
  simp only [rdBox, Parcel.c] at a1 c1 e1 f
  by_cases k : pickV cs p1 2 = 0
  · refine ⟨u, F_run fn265 rfl ?_, by omega⟩
    simp [c265, w0, c1, f, a1, k, e1]
  · refine ⟨parcelForm q, F_run fn265 rfl ?_, by omega⟩
    simp [c265, w0, c1, f, a1, k]

theorem law266 (bs : List Int) (hl : bs.length ≤ 1000000000) (h : ∀ b ∈ bs, 0 ≤ b ∧ b ≤ 255) : ∃ q : Parcel, F 266 [.sl .imm 1 (bs.map rowB)] [] = some (.agg (q.c .own), []) ∧ q.small := by
  have hb := Code.take h
  have w0 := law91 bs hl
  generalize bs.take 2000 = cs at hb w0
  obtain ⟨_, c1, x1, p1, rfl, c2, c3, q, rfl, hq⟩ := law267 cs 0 hb (by omega) (by omega)
  obtain ⟨a1, a2, a3⟩ := law89 cs p1 3 hb (by omega) (by omega) (by omega)
  obtain ⟨b1, b2, b3⟩ := law89 cs (p1 + 1) 7 hb (by omega) (by omega) (by omega)
  obtain ⟨d1, d2, d3⟩ := law89 cs (p1 + 2) 9 hb (by omega) (by omega) (by omega)
  obtain ⟨e1, e2, e3⟩ := law89 cs (p1 + 2) 2 hb (by omega) (by omega) (by omega)
  obtain ⟨f1, f2, f3⟩ := law89 cs (p1 + 2) 4 hb (by omega) (by omega) (by omega)
  obtain ⟨g1, g2, g3⟩ := law89 cs (p1 + 2) 3 hb (by omega) (by omega) (by omega)
  obtain ⟨i1, i2, i3⟩ := law89 cs (p1 + 3) 2 hb (by omega) (by omega) (by omega)
  rw [show p1 + 1 + 1 = p1 + 2 by omega] at b1
  rw [show p1 + 2 + 1 = p1 + 3 by omega] at d1 e1 f1 g1
  have e4 := e3 (by omega)
  have f4 := f3 (by omega)
  have g4 := g3 (by omega)
  have i4 := i3 (by omega)
  have d4 := d3 (by omega)
  have hqs : q.small := ⟨by omega⟩
  simp only [rdBox, Parcel.c] at c1 a1 b1 d1 e1 f1 g1 i1
  by_cases k : 0 < pickV cs p1 3
  · refine ⟨q, F_run fn266 rfl ?_, hqs⟩
    simp [c266, w0, c1, a1, k, Parcel.c]
  by_cases k0 : pickV cs (p1 + 1) 7 = 0
  · have u0 : IntKind.i64.wrap (pickV cs (p1 + 2) 9 - 1) = pickV cs (p1 + 2) 9 - 1 := i64w (by omega) (by omega)
    refine ⟨{ q with kind := pickV cs (p1 + 2) 9 - 1 }, F_run fn266 rfl ?_, ⟨hqs.wants⟩⟩
    simp [c266, w0, c1, a1, k, b1, k0, d1, u0, Parcel.c]
  by_cases k1 : pickV cs (p1 + 1) 7 = 1
  · refine ⟨{ q with berth := selT [⟨#[]⟩, ⟨#[120, 32, 121]⟩] (pickV cs (p1 + 2) 2) }, F_run fn266 rfl ?_, ⟨hqs.wants⟩⟩
    simp [c266, w0, c1, a1, k, b1, k0, k1, e1, e2, e4, Parcel.c]
  by_cases k2 : pickV cs (p1 + 1) 7 = 2
  · refine ⟨{ q with seen := selI [-1, 0, 1, 1000001] (pickV cs (p1 + 2) 4) }, F_run fn266 rfl ?_, ⟨hqs.wants⟩⟩
    simp [c266, w0, c1, a1, k, b1, k0, k1, k2, f1, f2, f4, Parcel.c]
  by_cases k3 : pickV cs (p1 + 1) 7 = 3
  · refine ⟨{ q with hold := selT [⟨#[]⟩, ⟨#[42]⟩, ⟨#[120, 32, 121]⟩] (pickV cs (p1 + 2) 3) }, F_run fn266 rfl ?_, ⟨hqs.wants⟩⟩
    simp [c266, w0, c1, a1, k, b1, k0, k1, k2, k3, g1, g2, g4, Parcel.c]
  by_cases k4 : pickV cs (p1 + 1) 7 = 4
  · refine ⟨{ q with copy := selT [⟨#[]⟩, ⟨#[99]⟩, ⟨#[120, 32, 121]⟩] (pickV cs (p1 + 2) 3) }, F_run fn266 rfl ?_, ⟨hqs.wants⟩⟩
    simp [c266, w0, c1, a1, k, b1, k0, k1, k2, k3, k4, g1, g2, g4, Parcel.c]
  by_cases k5 : pickV cs (p1 + 1) 7 = 5
  · refine ⟨{ q with at_ := selI [-1, 1, 1000001] (pickV cs (p1 + 2) 3) }, F_run fn266 rfl ?_, ⟨hqs.wants⟩⟩
    simp [c266, w0, c1, a1, k, b1, k0, k1, k2, k3, k4, k5, g1, g2, g4, Parcel.c]
  · have l1 : (q.wants.length + 1) * 72 ≤ 140737488355328 := by omega
    have l2 : q.wants.length + 1 ≤ 140737488355328 := by omega
    have pl : ∀ (a : T) (b : Int) (c : T) (d e f g : Int), rowsPlain [[AV.str a, .int .i64 b, .str c, .int .i64 d, .int .i64 e, .int .i64 f, .int .i64 g]] = true := fun _ _ _ _ _ _ _ => rfl
    refine ⟨{ q with wants := q.wants ++ [⟨selT [⟨#[122, 122]⟩, ⟨#[]⟩] (pickV cs (p1 + 2) 2), 1, selT [⟨#[42]⟩, ⟨#[104]⟩] (pickV cs (p1 + 3) 2), 0, 0, 0, 0⟩] }, F_run fn266 rfl ?_, ⟨by simp; omega⟩⟩
    simp [c266, w0, c1, a1, k, b1, k0, k1, k2, k3, k4, k5, e1, e2, e4, i1, i2, i4, takeRows, pl, l1, l2, Parcel.c]
end Go.Proofs.YtaikddhcplfpmaaGreatDoor
