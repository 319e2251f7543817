/- Layer 7: what is sent, as a text. And what follows from it, part by part, as the proof needs it. -/
import Derived.Test.YtgdfelbedghhnaaGreatDoorB5
import Derived.Test.YtgdfelbedghhnaaGreatDoorB6
import Derived.IntWalk
namespace Go.Proofs.YtgdfelbedghhnaaGreatDoor
open Go
set_option linter.unusedSimpArgs false
set_option maxRecDepth 100000
def starOr(h:T):T:=if sEq h ⟨#[]⟩ then ⟨#[42]⟩ else h
def formWant(w:Want):T:=(⟨#[119,97,110,116,32]⟩:T)++w.copy++(⟨#[32]⟩:T)++dec w.version.toNat++(⟨#[32]⟩:T)++starOr w.hold++(⟨#[32]⟩:T)++dec w.pull.toNat++(⟨#[32]⟩:T)++dec w.start.toNat++(⟨#[32]⟩:T)++dec w.dies.toNat++(⟨#[32]⟩:T)++dec w.grace.toNat++(⟨#[10]⟩:T)
theorem law140'(n:Int)(h0:0<=n)(hn:n<=1000000):F 140 [.int .i64 n] []=some (.str (dec n.toNat),[])/\(dec n.toNat).size<=7:=by
 have h:=law140 n.toNat (by omega)
 rw[Int.toNat_of_nonneg h0]at h
 exact⟨h,Zgl 6 n.toNat (by omega)⟩
theorem Zh0{h:T}(k:h.size<=20):(starOr h).size<=20:=by
 unfold starOr
 split
 ·show (1:Nat)<=20;omega
 ·exact k
structure Want.fits(w:Want):Prop where
 copy:w.copy.size<=20
 hold:w.hold.size<=20
 version:0<=w.version/\w.version<=1000000
 pull:0<=w.pull/\w.pull<=1000000
 start:0<=w.start/\w.start<=1000000
 dies:0<=w.dies/\w.dies<=1000000
 grace:0<=w.grace/\w.grace<=1000000
theorem law240(w:Want)(hw:w.fits):F 240 [.agg w.c] []=some (.str (formWant w),[]):=by
 refine Zae fn240 rfl ?_
 obtain⟨h1,h2,n1,n2,n3,n4,n5⟩:=hw
 obtain⟨a1,b1⟩:=law140' _ n1.1 n1.2
 obtain⟨a2,b2⟩:=law140' _ n2.1 n2.2
 obtain⟨a3,b3⟩:=law140' _ n3.1 n3.2
 obtain⟨a4,b4⟩:=law140' _ n4.1 n4.2
 obtain⟨a5,b5⟩:=law140' _ n5.1 n5.2
 have hh:=Zh0 h2
 have z1:(⟨#[119,97,110,116,32]⟩:T).size=5:=rfl
 have z2:(⟨#[32]⟩:T).size=1:=rfl
 have z3:(⟨#[10]⟩:T).size=1:=rfl
 unfold formWant
 cases q:sEq w.hold ⟨#[]⟩
 ·have e:starOr w.hold=w.hold:=by simp[starOr,q]
  rw[e]at hh ⊢
  have s2:(⟨#[119,97,110,116,32]⟩:T).size+(w.copy).size<=9223372036854775807:=by omega
  have s3:(⟨#[119,97,110,116,32]⟩:T).size+(w.copy).size+(⟨#[32]⟩:T).size<=9223372036854775807:=by omega
  have s4:(⟨#[119,97,110,116,32]⟩:T).size+(w.copy).size+(⟨#[32]⟩:T).size+(dec w.version.toNat).size<=9223372036854775807:=by omega
  have s5:(⟨#[119,97,110,116,32]⟩:T).size+(w.copy).size+(⟨#[32]⟩:T).size+(dec w.version.toNat).size+(⟨#[32]⟩:T).size<=9223372036854775807:=by omega
  have s6:(⟨#[119,97,110,116,32]⟩:T).size+(w.copy).size+(⟨#[32]⟩:T).size+(dec w.version.toNat).size+(⟨#[32]⟩:T).size+(w.hold).size<=9223372036854775807:=by omega
  have s7:(⟨#[119,97,110,116,32]⟩:T).size+(w.copy).size+(⟨#[32]⟩:T).size+(dec w.version.toNat).size+(⟨#[32]⟩:T).size+(w.hold).size+(⟨#[32]⟩:T).size<=9223372036854775807:=by omega
  have s8:(⟨#[119,97,110,116,32]⟩:T).size+(w.copy).size+(⟨#[32]⟩:T).size+(dec w.version.toNat).size+(⟨#[32]⟩:T).size+(w.hold).size+(⟨#[32]⟩:T).size+(dec w.pull.toNat).size<=9223372036854775807:=by omega
  have s9:(⟨#[119,97,110,116,32]⟩:T).size+(w.copy).size+(⟨#[32]⟩:T).size+(dec w.version.toNat).size+(⟨#[32]⟩:T).size+(w.hold).size+(⟨#[32]⟩:T).size+(dec w.pull.toNat).size+(⟨#[32]⟩:T).size<=9223372036854775807:=by omega
  have s10:(⟨#[119,97,110,116,32]⟩:T).size+(w.copy).size+(⟨#[32]⟩:T).size+(dec w.version.toNat).size+(⟨#[32]⟩:T).size+(w.hold).size+(⟨#[32]⟩:T).size+(dec w.pull.toNat).size+(⟨#[32]⟩:T).size+(dec w.start.toNat).size<=9223372036854775807:=by omega
  have s11:(⟨#[119,97,110,116,32]⟩:T).size+(w.copy).size+(⟨#[32]⟩:T).size+(dec w.version.toNat).size+(⟨#[32]⟩:T).size+(w.hold).size+(⟨#[32]⟩:T).size+(dec w.pull.toNat).size+(⟨#[32]⟩:T).size+(dec w.start.toNat).size+(⟨#[32]⟩:T).size<=9223372036854775807:=by omega
  have s12:(⟨#[119,97,110,116,32]⟩:T).size+(w.copy).size+(⟨#[32]⟩:T).size+(dec w.version.toNat).size+(⟨#[32]⟩:T).size+(w.hold).size+(⟨#[32]⟩:T).size+(dec w.pull.toNat).size+(⟨#[32]⟩:T).size+(dec w.start.toNat).size+(⟨#[32]⟩:T).size+(dec w.dies.toNat).size<=9223372036854775807:=by omega
  have s13:(⟨#[119,97,110,116,32]⟩:T).size+(w.copy).size+(⟨#[32]⟩:T).size+(dec w.version.toNat).size+(⟨#[32]⟩:T).size+(w.hold).size+(⟨#[32]⟩:T).size+(dec w.pull.toNat).size+(⟨#[32]⟩:T).size+(dec w.start.toNat).size+(⟨#[32]⟩:T).size+(dec w.dies.toNat).size+(⟨#[32]⟩:T).size<=9223372036854775807:=by omega
  have s14:(⟨#[119,97,110,116,32]⟩:T).size+(w.copy).size+(⟨#[32]⟩:T).size+(dec w.version.toNat).size+(⟨#[32]⟩:T).size+(w.hold).size+(⟨#[32]⟩:T).size+(dec w.pull.toNat).size+(⟨#[32]⟩:T).size+(dec w.start.toNat).size+(⟨#[32]⟩:T).size+(dec w.dies.toNat).size+(⟨#[32]⟩:T).size+(dec w.grace.toNat).size<=9223372036854775807:=by omega
  have s15:(⟨#[119,97,110,116,32]⟩:T).size+(w.copy).size+(⟨#[32]⟩:T).size+(dec w.version.toNat).size+(⟨#[32]⟩:T).size+(w.hold).size+(⟨#[32]⟩:T).size+(dec w.pull.toNat).size+(⟨#[32]⟩:T).size+(dec w.start.toNat).size+(⟨#[32]⟩:T).size+(dec w.dies.toNat).size+(⟨#[32]⟩:T).size+(dec w.grace.toNat).size+(⟨#[10]⟩:T).size<=9223372036854775807:=by omega
  simp[c240,q,a1,a2,a3,a4,a5,s2,s3,s4,s5,s6,s7,s8,s9,s10,s11,s12,s13,s14,s15]
 ·have e:starOr w.hold=⟨#[42]⟩:=by simp[starOr,q]
  rw[e]at hh ⊢
  have s2:(⟨#[119,97,110,116,32]⟩:T).size+(w.copy).size<=9223372036854775807:=by omega
  have s3:(⟨#[119,97,110,116,32]⟩:T).size+(w.copy).size+(⟨#[32]⟩:T).size<=9223372036854775807:=by omega
  have s4:(⟨#[119,97,110,116,32]⟩:T).size+(w.copy).size+(⟨#[32]⟩:T).size+(dec w.version.toNat).size<=9223372036854775807:=by omega
  have s5:(⟨#[119,97,110,116,32]⟩:T).size+(w.copy).size+(⟨#[32]⟩:T).size+(dec w.version.toNat).size+(⟨#[32]⟩:T).size<=9223372036854775807:=by omega
  have s6:(⟨#[119,97,110,116,32]⟩:T).size+(w.copy).size+(⟨#[32]⟩:T).size+(dec w.version.toNat).size+(⟨#[32]⟩:T).size+(⟨#[42]⟩:T).size<=9223372036854775807:=by omega
  have s7:(⟨#[119,97,110,116,32]⟩:T).size+(w.copy).size+(⟨#[32]⟩:T).size+(dec w.version.toNat).size+(⟨#[32]⟩:T).size+(⟨#[42]⟩:T).size+(⟨#[32]⟩:T).size<=9223372036854775807:=by omega
  have s8:(⟨#[119,97,110,116,32]⟩:T).size+(w.copy).size+(⟨#[32]⟩:T).size+(dec w.version.toNat).size+(⟨#[32]⟩:T).size+(⟨#[42]⟩:T).size+(⟨#[32]⟩:T).size+(dec w.pull.toNat).size<=9223372036854775807:=by omega
  have s9:(⟨#[119,97,110,116,32]⟩:T).size+(w.copy).size+(⟨#[32]⟩:T).size+(dec w.version.toNat).size+(⟨#[32]⟩:T).size+(⟨#[42]⟩:T).size+(⟨#[32]⟩:T).size+(dec w.pull.toNat).size+(⟨#[32]⟩:T).size<=9223372036854775807:=by omega
  have s10:(⟨#[119,97,110,116,32]⟩:T).size+(w.copy).size+(⟨#[32]⟩:T).size+(dec w.version.toNat).size+(⟨#[32]⟩:T).size+(⟨#[42]⟩:T).size+(⟨#[32]⟩:T).size+(dec w.pull.toNat).size+(⟨#[32]⟩:T).size+(dec w.start.toNat).size<=9223372036854775807:=by omega
  have s11:(⟨#[119,97,110,116,32]⟩:T).size+(w.copy).size+(⟨#[32]⟩:T).size+(dec w.version.toNat).size+(⟨#[32]⟩:T).size+(⟨#[42]⟩:T).size+(⟨#[32]⟩:T).size+(dec w.pull.toNat).size+(⟨#[32]⟩:T).size+(dec w.start.toNat).size+(⟨#[32]⟩:T).size<=9223372036854775807:=by omega
  have s12:(⟨#[119,97,110,116,32]⟩:T).size+(w.copy).size+(⟨#[32]⟩:T).size+(dec w.version.toNat).size+(⟨#[32]⟩:T).size+(⟨#[42]⟩:T).size+(⟨#[32]⟩:T).size+(dec w.pull.toNat).size+(⟨#[32]⟩:T).size+(dec w.start.toNat).size+(⟨#[32]⟩:T).size+(dec w.dies.toNat).size<=9223372036854775807:=by omega
  have s13:(⟨#[119,97,110,116,32]⟩:T).size+(w.copy).size+(⟨#[32]⟩:T).size+(dec w.version.toNat).size+(⟨#[32]⟩:T).size+(⟨#[42]⟩:T).size+(⟨#[32]⟩:T).size+(dec w.pull.toNat).size+(⟨#[32]⟩:T).size+(dec w.start.toNat).size+(⟨#[32]⟩:T).size+(dec w.dies.toNat).size+(⟨#[32]⟩:T).size<=9223372036854775807:=by omega
  have s14:(⟨#[119,97,110,116,32]⟩:T).size+(w.copy).size+(⟨#[32]⟩:T).size+(dec w.version.toNat).size+(⟨#[32]⟩:T).size+(⟨#[42]⟩:T).size+(⟨#[32]⟩:T).size+(dec w.pull.toNat).size+(⟨#[32]⟩:T).size+(dec w.start.toNat).size+(⟨#[32]⟩:T).size+(dec w.dies.toNat).size+(⟨#[32]⟩:T).size+(dec w.grace.toNat).size<=9223372036854775807:=by omega
  have s15:(⟨#[119,97,110,116,32]⟩:T).size+(w.copy).size+(⟨#[32]⟩:T).size+(dec w.version.toNat).size+(⟨#[32]⟩:T).size+(⟨#[42]⟩:T).size+(⟨#[32]⟩:T).size+(dec w.pull.toNat).size+(⟨#[32]⟩:T).size+(dec w.start.toNat).size+(⟨#[32]⟩:T).size+(dec w.dies.toNat).size+(⟨#[32]⟩:T).size+(dec w.grace.toNat).size+(⟨#[10]⟩:T).size<=9223372036854775807:=by omega
  simp[c240,q,a1,a2,a3,a4,a5,s2,s3,s4,s5,s6,s7,s8,s9,s10,s11,s12,s13,s14,s15]
theorem Zag{s:T}(h:isName s=true):s.size<=20:=by
 simp only[isName,Xc,Xj]at h
 exact h.1.2
theorem Zg6{s:T}(h:(sEq s ⟨#[]⟩ || isHold s)=true):s.size<=20:=by
 rcases Bool.or_eq_true_iff.1 h with h|h
 ·rw[(Zac _ _).1 h];decide
 ·simp only[isHold,Xc]at h
  exact Zag h.1
theorem Zc7{w:Want}(h:wantOk w=true):w.fits:=by
 simp only[wantOk,Xc,inR,Xj]at h
 obtain⟨⟨⟨⟨⟨⟨h1,h2⟩,h3⟩,h4⟩,h5⟩,h6⟩,h7⟩:=h
 exact⟨Zag h1,Zg6 h3,⟨by omega,by omega⟩,⟨by omega,by omega⟩,⟨by omega,by omega⟩,⟨by omega,by omega⟩,⟨by omega,by omega⟩⟩
theorem Zh5{w:Want}(h:wantOk w=true):sEq w.hold ⟨#[42]⟩=false:=by
 simp only[wantOk,Xc]at h
 have h3:=h.1.1.1.1.2
 rcases Bool.or_eq_true_iff.1 h3 with h|h
 ·rw[(Zac _ _).1 h];exact Zad (by intro e;cases e)
 ·simp only[isHold,Xc,Xv]at h
  exact h.2
theorem Zcz{w:Want}(h:w.fits):(formWant w).size<=90:=by
 obtain⟨h1,h2,n1,n2,n3,n4,n5⟩:=h
 have b1:=(law140' _ n1.1 n1.2).2
 have b2:=(law140' _ n2.1 n2.2).2
 have b3:=(law140' _ n3.1 n3.2).2
 have b4:=(law140' _ n4.1 n4.2).2
 have b5:=(law140' _ n5.1 n5.2).2
 have hh:=Zh0 h2
 have z1:(⟨#[119,97,110,116,32]⟩:T).size=5:=rfl
 have z2:(⟨#[32]⟩:T).size=1:=rfl
 have z3:(⟨#[10]⟩:T).size=1:=rfl
 unfold formWant
 simp only[Zap]
 omega
theorem Zm0{d:Nat}:digit d=⟨#[UInt8.ofNat (48+d)]⟩:=by
 unfold digit
 congr 2
 simp[UInt8.ofNat_add]
theorem Zbo:∀ n:Nat,(dec n).data.toList=Lib.decDigits n:=by
 intro n
 induction n using Nat.strongRecOn with
 | ind n ih =>
  rw[dec,Lib.decDigits]
  split
  ·rw[Zm0]
  ·rw[Zax,ih (n / 10) (by omega),Zm0]
theorem Zbs{n:Int}(h:0<=n):itoaT n=dec n.toNat:=by
 apply Zb8
 rw[Zbo]
 simp[itoaT,Lib.itoa,show ¬ n<0 by omega]
def noHold(p:Parcel):Bool:=sEq p.hold ⟨#[]⟩ && (sEq p.copy ⟨#[]⟩ && p.at_ == 0)
def toldHead(p:Parcel):T:=(⟨#[116,111,108,100,32]⟩:T)++p.berth++(⟨#[32]⟩:T)++dec p.seen.toNat++(⟨#[10]⟩:T)
def formWants(acc:T):List Want->T
 | []=>acc
 | w::ws=>formWants (acc++formWant w) ws
def word(k:Int):T:=if k=2 then (⟨#[97,115,107,101,100,32]⟩:T) else if k=3 then (⟨#[103,105,118,101,110,32]⟩:T) else (⟨#[98,97,99,107,32]⟩:T)
def formSw(p:Parcel)(h nh:Bool):T :=
 if p.kind=1 then (if inR p.seen 1 1000000 && (wantsOk p.wants && nh) then formWants (toldHead p) p.wants else ⟨#[]⟩)
 else if p.kind=2\/p.kind=3\/p.kind=4 then (if h && (isName p.copy && (inR p.at_ 0 1000000 && (p.seen == 0 && p.wants.isEmpty))) then word p.kind++p.berth++(⟨#[32]⟩:T)++p.hold++(⟨#[32]⟩:T)++p.copy++(⟨#[32]⟩:T)++dec p.at_.toNat++(⟨#[10]⟩:T) else ⟨#[]⟩)
 else if p.kind=5 then (if h && (sEq p.copy ⟨#[]⟩ && (inR p.at_ 0 1000000 && (p.seen == 0 && p.wants.isEmpty))) then (⟨#[103,111,116,98,97,99,107,32]⟩:T)++p.berth++(⟨#[32]⟩:T)++p.hold++(⟨#[32]⟩:T)++dec p.at_.toNat++(⟨#[10]⟩:T) else ⟨#[]⟩)
 else if p.kind=6 then (if inR p.seen 0 1000000 && (p.wants.isEmpty && nh) then (⟨#[104,101,114,101,32]⟩:T)++p.berth++(⟨#[32]⟩:T)++dec p.seen.toNat++(⟨#[10]⟩:T) else ⟨#[]⟩)
 else ⟨#[]⟩
def parcelForm(p:Parcel):T:=if isName p.berth then formSw p (isHold p.hold) (noHold p) else ⟨#[]⟩
theorem Zbb{n a b:Int}(h:inR n a b=true):a<=n/\n<=b:=by simpa [inR] using h
def sw218:CCode:=(.seq (jR [xe 40 1 0,xc 41 40] [1,3,4,5,6,41]
 (.block 0
  (jR [xw 43 41 1,xd 42 43] [1,3,4,5,6,41,42]
  (.cond (.tmp 42)
   (.seq (jR [xe 44 1 2,xc 45 44,yv 46 85 45 1 1000000,yb 47 46,xd 48 47,xr 49 1 3 48,xk 50 49 48,yn 51 6 50 48,yc 52 51 48,xj 53 48 52,xd 54 53,ya 55 6 54,yc 56 55 54,xj 57 54 56] [1,3,57]
   (.cond (.tmp 57)
    (jR [yx 2] [2]
    .ret)
    .skip))
   (jQ [xe 58 1 1,xc 59 58,⟨some 60,.bin .add (.const (.str ⟨#[116,111,108,100,32]⟩)) (.tmp 59),none⟩,yp 61 60,xd 62 3,xe 63 1 2,xc 64 63,qe 65 62 64,yo 66 61 65,qo 67 66,xd 7 67] [1,3,7]
   (.seq (jR [xe 68 1 3,xc 69 68,xv 70 69,x8 71] [3,7,69,70,71]
   (.block 1
    (.loop [3,7,69,70,71] c218b0)))
   (jR [xd 110 7,xd 2 110] [2]
   .ret))))
   (.seq (jR [xw 112 41 2,xd 111 112] [1,3,4,5,6,41,111]
   (.cond (.tmp 111)
    .skip
    (jR [xw 113 41 3,xd 111 113] [1,3,4,5,6,41,111]
    (.cond (.tmp 111)
     .skip
     (.region [xw 114 41 4,xd 111 114] [1,3,4,5,6,41,111])))))
   (.cond (.tmp 111)
    (.seq (jR [xd 115 4,yb 116 115,xd 117 116,xr 118 1 5 117,xk 119 118 117,yn 120 105 119 117,yc 121 120 117,xj 122 117 121,xd 123 122,xr 124 1 6 123,xk 125 124 123,xy 126 85 125 0 1000000 123,yc 127 126 123,xj 128 123 127,xd 129 128,xr 130 1 2 129,xk 131 130 129,wa 132 131 0 129,xj 133 129 132,xd 134 133,ya 135 5 134,yc 136 135 134,xj 137 134 136] [1,3,137]
    (.cond (.tmp 137)
     (jR [yx 2] [2]
     .ret)
     .skip))
    (.seq (.loud [⟨some 138,.bslice 1 [.str ⟨#[]⟩] 3 [(0,.const (.str ⟨#[97,115,107,101,100]⟩)),(1,.const (.str ⟨#[103,105,118,101,110]⟩)),(2,.const (.str ⟨#[98,97,99,107]⟩))],none⟩,xe 139 1 0,xc 140 139,qn 141 140 2,xp 142 1 138 141,xc 143 142,xe 144 1 1,xc 145 144,xe 146 1 4,xc 147 146,xe 148 1 5,xc 149 148,xd 150 3,xe 151 1 6,xc 152 151,qe 153 150 152,⟨some 154,.bslice 1 [.str ⟨#[]⟩] 5 [(0,.tmp 143),(1,.tmp 145),(2,.tmp 147),(3,.tmp 149),(4,.tmp 153)],none⟩,wh 155 230 154,qo 156 155,xd 2 156] [0,0,2,6,15,31,0,64,0,256,0,1024,0,0,8192,28672,65535,131071,262143,524287] [2])
    .ret))
    (jR [xw 158 41 5,xd 157 158] [1,3,4,5,6,41,157]
    (.cond (.tmp 157)
     (.seq (jR [xd 159 4,yb 160 159,xd 161 160,xr 162 1 5 161,xk 163 162 161,um 164 163 161,xj 165 161 164,xd 166 165,xr 167 1 6 166,xk 168 167 166,xy 169 85 168 0 1000000 166,yc 170 169 166,xj 171 166 170,xd 172 171,xr 173 1 2 172,xk 174 173 172,wa 175 174 0 172,xj 176 172 175,xd 177 176,ya 178 5 177,yc 179 178 177,xj 180 177 179] [1,3,180]
     (.cond (.tmp 180)
      (jR [yx 2] [2]
      .ret)
      .skip))
     (jQ [xe 181 1 1,xc 182 181,⟨some 183,.bin .add (.const (.str ⟨#[103,111,116,98,97,99,107,32]⟩)) (.tmp 182),none⟩,yp 184 183,xe 185 1 4,xc 186 185,yo 187 184 186,yp 188 187,xd 189 3,xe 190 1 6,xc 191 190,qe 192 189 191,yo 193 188 192,qo 194 193,xd 2 194] [2]
     .ret))
     (jR [xw 196 41 6,xd 195 196] [1,3,5,6,195]
     (.cond (.tmp 195)
      (.seq (jR [xe 197 1 2,xc 198 197,yv 199 85 198 0 1000000,yb 200 199,xd 201 200,ya 202 5 201,yc 203 202 201,xj 204 201 203,xd 205 204,ya 206 6 205,yc 207 206 205,xj 208 205 207] [1,3,208]
      (.cond (.tmp 208)
       (jR [yx 2] [2]
       .ret)
       .skip))
      (jQ [xe 209 1 1,xc 210 209,⟨some 211,.bin .add (.const (.str ⟨#[104,101,114,101,32]⟩)) (.tmp 210),none⟩,yp 212 211,xd 213 3,xe 214 1 2,xc 215 214,qe 216 213 215,yo 217 212 216,qo 218 217,xd 2 218] [2]
      .ret))
      .skip))))))))))
 (jR [yx 2] [2]
 .ret))
theorem c218_cut:c218=⟨219,[.tmp 2],
 (jR [yi 1 0,yx 2] [1]
 (jR [⟨some 3,.mov (.const (.fn 231)),none⟩] [1,3]
 (jR [xe 11 1 4,xc 12 11,xt 13 105 12,xd 14 13,xn 15 1 4 14,xh 16 15 14,⟨some 17,.bin .neq (.tmp 16) (.const (.str ⟨#[42]⟩)),some (14,true)⟩,xl 18 14 17,xd 4 18] [1,3,4]
 (.seq (jR [xe 19 1 1,xc 20 19,xt 21 105 20,yb 22 21] [1,3,4,22]
 (.cond (.tmp 22)
  (jR [yx 2] [2]
  .ret)
  .skip))
 (jR [xe 23 1 3,xc 24 23,xv 25 24,xw 26 25 0,xd 5 26] [1,3,4,5]
 (jR [xe 27 1 4,xc 28 27,uf 29 28,xd 30 29,xn 31 1 5 30,xh 32 31 30,qp 33 32 30,xl 34 30 33,xd 35 34,xn 36 1 6 35,xh 37 36 35,wj 38 37 0 35,xl 39 35 38,xd 6 39] [1,3,4,5,6]
 sw218))))))⟩:=rfl
def sw236:CCode:=(.seq (jR [xe 42 1 0,xc 43 42] [1,3,43]
 (.block 0
  (jR [xw 45 43 1,xd 44 45] [1,3,43,44]
  (.cond (.tmp 44)
   (.seq (jR [xe 46 1 3,xc 47 46,xt 48 7 47,yb 49 48,xd 50 49,xr 51 1 2 50,xk 52 51 50,xy 53 102 52 1 1000000 50,yc 54 53 50,xj 55 50 54,xd 56 55,xr 57 1 4 56,xk 58 57 56,um 59 58 56,xj 60 56 59,xd 61 60,xr 62 1 5 61,xk 63 62 61,um 64 63 61,xj 65 61 64,xd 66 65,xr 67 1 6 66,xk 68 67 66,wa 69 68 0 66,xj 70 66 69] [1,70]
   (.cond (.tmp 70)
    (jR [yx 2] [2]
    .ret)
    .skip))
   (jQ [xe 71 1 1,xc 72 71,⟨some 73,.bin .add (.const (.str ⟨#[116,111,108,100,32]⟩)) (.tmp 72),none⟩,yp 74 73,xe 75 1 2,xc 76 75,xt 77 140 76,yo 78 74 77,qo 79 78,xd 4 79] [1,4]
   (.seq (jR [x8 5] [1,4,5]
   (.block 1
    (.loop [1,4,5] c236b0)))
   (jR [xd 95 4,xd 2 95] [2]
   .ret))))
   (.seq (jR [xw 97 43 2,xd 96 97] [1,3,43,96]
   (.cond (.tmp 96)
    .skip
    (jR [xw 98 43 3,xd 96 98] [1,3,43,96]
    (.cond (.tmp 96)
     .skip
     (.region [xw 99 43 4,xd 96 99] [1,3,43,96])))))
   (.cond (.tmp 96)
    (jR [xd 100 3,xd 101 100,xn 102 1 5 101,xh 103 102 101,⟨some 104,.call 101 [false] [.tmp 103],some (101,true)⟩,xl 105 101 104] [1,105]
    (.cond (.tmp 105)
     (.seq (.loud [⟨some 106,.bslice 1 [.str ⟨#[]⟩] 3 [(0,.const (.str ⟨#[97,115,107,101,100,32]⟩)),(1,.const (.str ⟨#[103,105,118,101,110,32]⟩)),(2,.const (.str ⟨#[98,97,99,107,32]⟩))],none⟩,xe 107 1 0,xc 108 107,qn 109 108 2,xp 110 1 106 109,xc 111 110,xe 112 1 1,xc 113 112,yo 114 111 113,yp 115 114,xe 116 1 4,xc 117 116,yo 118 115 117,yp 119 118,xe 120 1 5,xc 121 120,yo 122 119 121,yp 123 122,xe 124 1 6,xc 125 124,xt 126 140 125,yo 127 123 126,qo 128 127,xd 2 128] [0,0,2,6,15,31,0,64,255,511,0,1024,4095,8191,0,16384,65535,131071,0,262144,786432,2097151,4194303,8388607] [2])
     .ret)
     .skip))
    (jR [xw 130 43 5,xd 129 130] [1,3,43,129]
    (.cond (.tmp 129)
     (jR [xd 131 3,xd 132 131,xn 133 1 5 132,xh 134 133 132,qp 135 134 132,xl 136 132 135] [1,136]
     (.cond (.tmp 136)
      (jQ [xe 137 1 1,xc 138 137,⟨some 139,.bin .add (.const (.str ⟨#[103,111,116,98,97,99,107,32]⟩)) (.tmp 138),none⟩,yp 140 139,xe 141 1 4,xc 142 141,yo 143 140 142,yp 144 143,xe 145 1 6,xc 146 145,xt 147 140 146,yo 148 144 147,qo 149 148,xd 2 149] [2]
      .ret)
      .skip))
     (jR [xw 151 43 6,xd 150 151] [1,150]
     (.cond (.tmp 150)
      (jR [xe 152 1 2,xc 153 152,yv 154 102 153 0 1000000,xd 155 154,xn 156 1 4 155,xh 157 156 155,qp 158 157 155,xl 159 155 158,xd 160 159,xn 161 1 5 160,xh 162 161 160,qp 163 162 160,xl 164 160 163,xd 165 164,xn 166 1 6 165,xh 167 166 165,wj 168 167 0 165,xl 169 165 168] [1,169]
      (.cond (.tmp 169)
       (jQ [xe 170 1 1,xc 171 170,⟨some 172,.bin .add (.const (.str ⟨#[104,101,114,101,32]⟩)) (.tmp 171),none⟩,yp 173 172,xe 174 1 2,xc 175 174,xt 176 140 175,yo 177 173 176,qo 178 177,xd 2 178] [2]
       .ret)
       .skip))
      .skip))))))))))
 (jR [yx 2] [2]
 .ret))
theorem c236_cut:c236=⟨179,[.tmp 2],
 (jR [yi 1 0,yx 2] [1]
 (.seq (jR [xe 6 1 1,xc 7 6,xt 8 101 7,yb 9 8] [1,9]
 (.cond (.tmp 9)
  (jR [yx 2] [2]
  .ret)
  .skip))
 (jR [xe 10 1 4,xc 11 10,xt 12 100 11,xd 13 12,xn 14 1 6 13,xh 15 14 13,yd 16 102 15 0 1000000 13,xl 17 13 16,xd 3 17] [1,3]
 (.seq (jR [xe 18 1 0,xc 19 18,wo 20 19 1,xd 21 20,xn 22 1 3 21,xh 23 22 21,ua 24 23 21,⟨some 25,.bin .gtr (.tmp 24) (.const (.int .i64 0)),some (21,true)⟩,xl 26 21 25,xd 27 26,xr 28 1 0 27,xk 29 28 27,wa 30 29 1 27,ya 31 30 27,xn 32 1 0 31,xh 33 32 31,uz 34 33 6 31,yf 35 31 34 27,ya 36 35 27,xn 37 1 2 36,xh 38 37 36,uz 39 38 0 36,yf 40 36 39 27,xj 41 27 40] [1,3,41]
 (.cond (.tmp 41)
  (jR [yx 2] [2]
  .ret)
  .skip))
 sw236))))⟩:=rfl
def headF(ws:List Want)(i:Nat)(acc:T):St:=hd [(3,.fn 231),(7,.str acc),(69,.sl .bor 7 (ws.map Want.c)),(70,.int .i64 ws.length),(71,.int .i64 i)] [] 0
theorem Zq8(w:Want)(hw:w.fits):joinT [⟨#[119,97,110,116]⟩,w.copy,itoaT w.version,starOr w.hold,itoaT w.pull,itoaT w.start,itoaT w.dies,itoaT w.grace] ⟨#[32]⟩++⟨#[10]⟩=formWant w:=by
 rw[Zbs hw.version.1,Zbs hw.pull.1,Zbs hw.start.1,Zbs hw.dies.1,Zbs hw.grace.1]
 apply Zb8
 simp[joinT,formWant,Lib.join_cons,Lib.joinTail]
theorem Zjp(wd b h c:T)(n:Int)(h1:wd.size<=20)(h2:b.size<=20)(h3:h.size<=20)(h4:c.size<=20)(n0:0<=n)(n1:n<=1000000) :
  joinT [wd,b,h,c,itoaT n] ⟨#[32]⟩++⟨#[10]⟩=wd++⟨#[32]⟩++b++⟨#[32]⟩++h++⟨#[32]⟩++c++⟨#[32]⟩++dec n.toNat++⟨#[10]⟩/\(joinT [wd,b,h,c,itoaT n] ⟨#[32]⟩).size<=200:=by
 have hd:=(law140' n n0 n1).2
 have e:joinT [wd,b,h,c,itoaT n] ⟨#[32]⟩++⟨#[10]⟩=wd++⟨#[32]⟩++b++⟨#[32]⟩++h++⟨#[32]⟩++c++⟨#[32]⟩++dec n.toNat++⟨#[10]⟩:=by
  rw[Zbs n0]
  apply Zb8
  simp[joinT,Lib.join_cons,Lib.joinTail]
 refine⟨e,?_⟩
 have hs:=Xct ByteArray.size e
 simp only[Zap]at hs
 have z1:(⟨#[32]⟩:T).size=1:=rfl
 have z2:(⟨#[10]⟩:T).size=1:=rfl
 omega
theorem Zph{fs:List Fr}(ws:List Want)(acc:T)(hl:ws.length<=1048576)(hok:∀ w∈ws,wantOk w=true)(ha:acc.size<=1000)(s:St)(hs:s.norm [3,7,69,70,71]=headF ws 0 acc)(hf:∀ (r:T) (s':St),s'.slots 7=.str r->s'.heap=(fun _=>none)->s'.base=0->fin [.tmp 2] 0 (X F fs (.exit 1,s'))=some (.str r,[])) :
  fin [.tmp 2] 0 (X F (.code (.loop [3,7,69,70,71] c218b0)::fs) (.normal,s))=some (.str (formWants acc ws),[]):=by
 refine (Zaa ws (fun i (acc:T)=>headF ws i acc) (fun i acc=>acc.size<=1000+90*i) (fun _ r acc=>(.str (formWants acc r),[])) (fun acc Y hinv=>?_) (fun i w r acc Y hw hi hr hinv hY=>?_) acc hs (by simpa using ha) ?_).trans rfl
 ·simp[headF,c218b0,formWants]
  exact hf acc _ (by simp) rfl rfl
 ·have hw1:IntKind.i64.wrap ((i:Int)+1)=(i:Int)+1:=i64w (by omega) (by omega)
  obtain⟨_,hg⟩:=Xa.1 hw
  have hiI:(i:Int)<ws.length:=by omega
  have hwk:=hok w (Xe hw)
  have hfit:=Zc7 hwk
  have hstar:=Zh5 hwk
  have hj:=Zq8 w hfit
  have hfs:=Zcz hfit
  have hjs:(joinT [⟨#[119,97,110,116]⟩,w.copy,itoaT w.version,starOr w.hold,itoaT w.pull,itoaT w.start,itoaT w.dies,itoaT w.grace] ⟨#[32]⟩).size+(⟨#[10]⟩:T).size<=90:=by
   rw[<- Zap,hj];exact hfs
  have a1:=law231 w.version (by have:=hfit.version;omega) (by have:=hfit.version;omega)
  have a2:=law231 w.pull (by have:=hfit.pull;omega) (by have:=hfit.pull;omega)
  have a3:=law231 w.start (by have:=hfit.start;omega) (by have:=hfit.start;omega)
  have a4:=law231 w.dies (by have:=hfit.dies;omega) (by have:=hfit.dies;omega)
  have a5:=law231 w.grace (by have:=hfit.grace;omega) (by have:=hfit.grace;omega)
  have hjl:=law230 [⟨#[119,97,110,116]⟩,w.copy,itoaT w.version,starOr w.hold,itoaT w.pull,itoaT w.start,itoaT w.dies,itoaT w.grace] ⟨#[32]⟩ (by simp) (by omega)
  simp only[Xx,Xt]at hjl
  have e1:(joinT [⟨#[119,97,110,116]⟩,w.copy,itoaT w.version,starOr w.hold,itoaT w.pull,itoaT w.start,itoaT w.dies,itoaT w.grace] ⟨#[32]⟩).size+(⟨#[10]⟩:T).size<=9223372036854775807:=by omega
  have e2:acc.size+(formWant w).size<=9223372036854775807:=by omega
  have hY':=fun s' h=>hY (acc++formWant w) s' (by rw[Zap];omega) h
  simp only[formWants]
  have hst:starOr w.hold=if sEq w.hold ⟨#[]⟩ then ⟨#[42]⟩ else w.hold:=rfl
  cases q:sEq w.hold ⟨#[]⟩
  ·rw[q]at hst
   simp only[Xq,Xaj]at hst
   rw[hst]at hj hjl e1
   simp[headF,c218b0,hiI,hi,hg,hstar,q,a1,a2,a3,a4,a5,hjl,e1,hj,e2]
   exact hY' _ (by simp[headF,hw1])
  ·rw[q]at hst
   simp only[Xag]at hst
   rw[hst]at hj hjl e1
   simp[headF,c218b0,hiI,hi,hg,hstar,q,a1,a2,a3,a4,a5,hjl,e1,hj,e2]
   exact hY' _ (by simp[headF,hw1])
 ·unfold big;omega
theorem Zsc(p:Parcel)(h nh:Bool)(hs:p.small)(hb:isName p.berth=true)(hh:h=true->isName p.hold=true)(s:St)(n:Nat)(s1:s.slots 1=.ptr 0 0 0)(s3:s.slots 3=.fn 231)(s4:s.slots 4=.bool h)(s5:s.slots 5=.bool p.wants.isEmpty)(s6:s.slots 6=.bool nh)
  (h0:s.heap 0=some (.box (p.c .bor))) (hn:s.next=n+1) (hba:s.base=0):fin [.tmp 2] 0 (X F [.code sw218] (.normal,s))=some (.str (formSw p h nh),[]):=by
 have hbs:=Zag hb
 by_cases k1:p.kind=1
 ·cases q1:inR p.seen 1 1000000
  ·simp[sw218,formSw,s1,s3,s4,s5,s6,h0,hn,hba,k1,q1]
  have w2:=law6 p.wants (by have:=hs.wants;unfold big;omega)
  cases q2:wantsOk p.wants
  ·simp[sw218,formSw,s1,s3,s4,s5,s6,h0,hn,hba,k1,q1,q2,w2]
  cases nh
  ·simp[sw218,formSw,s1,s3,s4,s5,s6,h0,hn,hba,k1,q1,q2,w2]
  obtain⟨r1,r2⟩:=Zbb q1
  have a1:=law231 p.seen (by omega) (by omega)
  rw[Zbs (by omega)]at a1
  have b1:=(law140' p.seen (by omega) (by omega)).2
  have z1:(⟨#[116,111,108,100,32]⟩:T).size=5:=rfl
  have z2:(⟨#[32]⟩:T).size=1:=rfl
  have z3:(⟨#[10]⟩:T).size=1:=rfl
  have y2:(⟨#[116,111,108,100,32]⟩:T).size+(p.berth).size<=9223372036854775807:=by omega
  have y3:(⟨#[116,111,108,100,32]⟩:T).size+(p.berth).size+(⟨#[32]⟩:T).size<=9223372036854775807:=by omega
  have y4:(⟨#[116,111,108,100,32]⟩:T).size+(p.berth).size+(⟨#[32]⟩:T).size+(dec p.seen.toNat).size<=9223372036854775807:=by omega
  have y5:(⟨#[116,111,108,100,32]⟩:T).size+(p.berth).size+(⟨#[32]⟩:T).size+(dec p.seen.toNat).size+(⟨#[10]⟩:T).size<=9223372036854775807:=by omega
  simp[sw218,formSw,s1,s3,s4,s5,s6,h0,hn,hba,k1,q1,q2,w2,a1,y2,y3,y4,y5]
  refine Zph p.wants (toldHead p) hs.wants (fun w hw=>((Zaq _).1 q2).2.1 w hw) ?_ _ ?_ (fun r s' h7 hh hb=>?_)
  ·unfold toldHead
   simp only[Zap]
   omega
  ·simp[headF,toldHead]
  ·simp[h7,hh,hb]
 by_cases k2:p.kind=2
 ·cases h
  ·simp[sw218,formSw,s1,s3,s4,s5,s6,h0,hn,hba,k1,k2]
  have hhs:=Zag (hh rfl)
  cases q1:isName p.copy
  ·simp[sw218,formSw,s1,s3,s4,s5,s6,h0,hn,hba,k1,k2,q1]
  have hcs:=Zag q1
  cases q2:inR p.at_ 0 1000000
  ·simp[sw218,formSw,s1,s3,s4,s5,s6,h0,hn,hba,k1,k2,q1,q2]
  by_cases q3:p.seen=0
  case neg=>simp[sw218,formSw,s1,s3,s4,s5,s6,h0,hn,hba,k1,k2,q1,q2,q3]
  cases q4:p.wants.isEmpty
  ·simp[sw218,formSw,s1,s3,s4,s5,s6,h0,hn,hba,k1,k2,q1,q2,q3,q4]
  obtain⟨r1,r2⟩:=Zbb q2
  have a1:=law231 p.at_ (by omega) (by omega)
  have b1:=(law140' p.at_ (by omega) (by omega)).2
  obtain⟨hj,hz⟩:=Zjp (⟨#[97,115,107,101,100]⟩) p.berth p.hold p.copy p.at_ (by decide) hbs hhs hcs r1 r2
  have hjl:=law230 [⟨#[97,115,107,101,100]⟩,p.berth,p.hold,p.copy,itoaT p.at_] ⟨#[32]⟩ (by simp) (by omega)
  simp only[Xx,Xt]at hjl
  have e1:(joinT [⟨#[97,115,107,101,100]⟩,p.berth,p.hold,p.copy,itoaT p.at_] ⟨#[32]⟩).size+(⟨#[10]⟩:T).size<=9223372036854775807:=by
   have:(⟨#[10]⟩:T).size=1:=rfl
   omega
  have u0:IntKind.i64.wrap 0=0:=by decide
  have u1:IntKind.i64.wrap 1=1:=by decide
  have u2:IntKind.i64.wrap 2=2:=by decide
  simp[sw218,formSw,s1,s3,s4,s5,s6,h0,hn,hba,k1,k2,q1,q2,q3,q4,a1,hjl,e1,hj,word,u0,u1,u2]
  exact Zb8 (by simp)
 by_cases k3:p.kind=3
 ·cases h
  ·simp[sw218,formSw,s1,s3,s4,s5,s6,h0,hn,hba,k1,k2,k3]
  have hhs:=Zag (hh rfl)
  cases q1:isName p.copy
  ·simp[sw218,formSw,s1,s3,s4,s5,s6,h0,hn,hba,k1,k2,k3,q1]
  have hcs:=Zag q1
  cases q2:inR p.at_ 0 1000000
  ·simp[sw218,formSw,s1,s3,s4,s5,s6,h0,hn,hba,k1,k2,k3,q1,q2]
  by_cases q3:p.seen=0
  case neg=>simp[sw218,formSw,s1,s3,s4,s5,s6,h0,hn,hba,k1,k2,k3,q1,q2,q3]
  cases q4:p.wants.isEmpty
  ·simp[sw218,formSw,s1,s3,s4,s5,s6,h0,hn,hba,k1,k2,k3,q1,q2,q3,q4]
  obtain⟨r1,r2⟩:=Zbb q2
  have a1:=law231 p.at_ (by omega) (by omega)
  have b1:=(law140' p.at_ (by omega) (by omega)).2
  obtain⟨hj,hz⟩:=Zjp (⟨#[103,105,118,101,110]⟩) p.berth p.hold p.copy p.at_ (by decide) hbs hhs hcs r1 r2
  have hjl:=law230 [⟨#[103,105,118,101,110]⟩,p.berth,p.hold,p.copy,itoaT p.at_] ⟨#[32]⟩ (by simp) (by omega)
  simp only[Xx,Xt]at hjl
  have e1:(joinT [⟨#[103,105,118,101,110]⟩,p.berth,p.hold,p.copy,itoaT p.at_] ⟨#[32]⟩).size+(⟨#[10]⟩:T).size<=9223372036854775807:=by
   have:(⟨#[10]⟩:T).size=1:=rfl
   omega
  have u0:IntKind.i64.wrap 0=0:=by decide
  have u1:IntKind.i64.wrap 1=1:=by decide
  have u2:IntKind.i64.wrap 2=2:=by decide
  simp[sw218,formSw,s1,s3,s4,s5,s6,h0,hn,hba,k1,k2,k3,q1,q2,q3,q4,a1,hjl,e1,hj,word,u0,u1,u2]
  exact Zb8 (by simp)
 by_cases k4:p.kind=4
 ·cases h
  ·simp[sw218,formSw,s1,s3,s4,s5,s6,h0,hn,hba,k1,k2,k3,k4]
  have hhs:=Zag (hh rfl)
  cases q1:isName p.copy
  ·simp[sw218,formSw,s1,s3,s4,s5,s6,h0,hn,hba,k1,k2,k3,k4,q1]
  have hcs:=Zag q1
  cases q2:inR p.at_ 0 1000000
  ·simp[sw218,formSw,s1,s3,s4,s5,s6,h0,hn,hba,k1,k2,k3,k4,q1,q2]
  by_cases q3:p.seen=0
  case neg=>simp[sw218,formSw,s1,s3,s4,s5,s6,h0,hn,hba,k1,k2,k3,k4,q1,q2,q3]
  cases q4:p.wants.isEmpty
  ·simp[sw218,formSw,s1,s3,s4,s5,s6,h0,hn,hba,k1,k2,k3,k4,q1,q2,q3,q4]
  obtain⟨r1,r2⟩:=Zbb q2
  have a1:=law231 p.at_ (by omega) (by omega)
  have b1:=(law140' p.at_ (by omega) (by omega)).2
  obtain⟨hj,hz⟩:=Zjp (⟨#[98,97,99,107]⟩) p.berth p.hold p.copy p.at_ (by decide) hbs hhs hcs r1 r2
  have hjl:=law230 [⟨#[98,97,99,107]⟩,p.berth,p.hold,p.copy,itoaT p.at_] ⟨#[32]⟩ (by simp) (by omega)
  simp only[Xx,Xt]at hjl
  have e1:(joinT [⟨#[98,97,99,107]⟩,p.berth,p.hold,p.copy,itoaT p.at_] ⟨#[32]⟩).size+(⟨#[10]⟩:T).size<=9223372036854775807:=by
   have:(⟨#[10]⟩:T).size=1:=rfl
   omega
  have u0:IntKind.i64.wrap 0=0:=by decide
  have u1:IntKind.i64.wrap 1=1:=by decide
  have u2:IntKind.i64.wrap 2=2:=by decide
  simp[sw218,formSw,s1,s3,s4,s5,s6,h0,hn,hba,k1,k2,k3,k4,q1,q2,q3,q4,a1,hjl,e1,hj,word,u0,u1,u2]
  exact Zb8 (by simp)
 by_cases k5:p.kind=5
 ·cases h
  ·simp[sw218,formSw,s1,s3,s4,s5,s6,h0,hn,hba,k1,k2,k3,k4,k5]
  have hhs:=Zag (hh rfl)
  cases q1:sEq p.copy ⟨#[]⟩
  ·simp[sw218,formSw,s1,s3,s4,s5,s6,h0,hn,hba,k1,k2,k3,k4,k5,q1]
  cases q2:inR p.at_ 0 1000000
  ·simp[sw218,formSw,s1,s3,s4,s5,s6,h0,hn,hba,k1,k2,k3,k4,k5,q1,q2]
  by_cases q3:p.seen=0
  case neg=>simp[sw218,formSw,s1,s3,s4,s5,s6,h0,hn,hba,k1,k2,k3,k4,k5,q1,q2,q3]
  cases q4:p.wants.isEmpty
  ·simp[sw218,formSw,s1,s3,s4,s5,s6,h0,hn,hba,k1,k2,k3,k4,k5,q1,q2,q3,q4]
  obtain⟨r1,r2⟩:=Zbb q2
  have a1:=law231 p.at_ (by omega) (by omega)
  rw[Zbs r1]at a1
  have b1:=(law140' p.at_ (by omega) (by omega)).2
  have z1:(⟨#[103,111,116,98,97,99,107,32]⟩:T).size=8:=rfl
  have z2:(⟨#[32]⟩:T).size=1:=rfl
  have z3:(⟨#[10]⟩:T).size=1:=rfl
  have y2:(⟨#[103,111,116,98,97,99,107,32]⟩:T).size+(p.berth).size<=9223372036854775807:=by omega
  have y3:(⟨#[103,111,116,98,97,99,107,32]⟩:T).size+(p.berth).size+(⟨#[32]⟩:T).size<=9223372036854775807:=by omega
  have y4:(⟨#[103,111,116,98,97,99,107,32]⟩:T).size+(p.berth).size+(⟨#[32]⟩:T).size+(p.hold).size<=9223372036854775807:=by omega
  have y5:(⟨#[103,111,116,98,97,99,107,32]⟩:T).size+(p.berth).size+(⟨#[32]⟩:T).size+(p.hold).size+(⟨#[32]⟩:T).size<=9223372036854775807:=by omega
  have y6:(⟨#[103,111,116,98,97,99,107,32]⟩:T).size+(p.berth).size+(⟨#[32]⟩:T).size+(p.hold).size+(⟨#[32]⟩:T).size+(dec p.at_.toNat).size<=9223372036854775807:=by omega
  have y7:(⟨#[103,111,116,98,97,99,107,32]⟩:T).size+(p.berth).size+(⟨#[32]⟩:T).size+(p.hold).size+(⟨#[32]⟩:T).size+(dec p.at_.toNat).size+(⟨#[10]⟩:T).size<=9223372036854775807:=by omega
  simp[sw218,formSw,s1,s3,s4,s5,s6,h0,hn,hba,k1,k2,k3,k4,k5,q1,q2,q3,q4,a1,y2,y3,y4,y5,y6,y7]
 by_cases k6:p.kind=6
 ·cases q1:inR p.seen 0 1000000
  ·simp[sw218,formSw,s1,s3,s4,s5,s6,h0,hn,hba,k1,k2,k3,k4,k5,k6,q1]
  cases q4:p.wants.isEmpty
  ·simp[sw218,formSw,s1,s3,s4,s5,s6,h0,hn,hba,k1,k2,k3,k4,k5,k6,q1,q4]
  cases nh
  ·simp[sw218,formSw,s1,s3,s4,s5,s6,h0,hn,hba,k1,k2,k3,k4,k5,k6,q1,q4]
  obtain⟨r1,r2⟩:=Zbb q1
  have a1:=law231 p.seen (by omega) (by omega)
  rw[Zbs r1]at a1
  have b1:=(law140' p.seen (by omega) (by omega)).2
  have z1:(⟨#[104,101,114,101,32]⟩:T).size=5:=rfl
  have z2:(⟨#[32]⟩:T).size=1:=rfl
  have z3:(⟨#[10]⟩:T).size=1:=rfl
  have y2:(⟨#[104,101,114,101,32]⟩:T).size+(p.berth).size<=9223372036854775807:=by omega
  have y3:(⟨#[104,101,114,101,32]⟩:T).size+(p.berth).size+(⟨#[32]⟩:T).size<=9223372036854775807:=by omega
  have y4:(⟨#[104,101,114,101,32]⟩:T).size+(p.berth).size+(⟨#[32]⟩:T).size+(dec p.seen.toNat).size<=9223372036854775807:=by omega
  have y5:(⟨#[104,101,114,101,32]⟩:T).size+(p.berth).size+(⟨#[32]⟩:T).size+(dec p.seen.toNat).size+(⟨#[10]⟩:T).size<=9223372036854775807:=by omega
  simp[sw218,formSw,s1,s3,s4,s5,s6,h0,hn,hba,k1,k2,k3,k4,k5,k6,q1,q4,a1,y2,y3,y4,y5]
 ·simp[sw218,formSw,s1,s3,s4,s5,s6,h0,hn,hba,k1,k2,k3,k4,k5,k6]
theorem law218(p:Parcel)(hs:p.small):F 218 [.agg (p.c .bor)] []=some (.str (parcelForm p),[]):=by
 refine Zae fn218 rfl ?_
 unfold parcelForm
 rw[c218_cut]
 have hz:((p.wants.length:Int) == 0)=p.wants.isEmpty:=by
  cases p.wants with
  | nil=>rfl
  | cons x xs =>
   have:¬ (((x::xs).length:Int)=0):=by simp;omega
   simpa using this
 cases qb:isName p.berth
 ·cases qh:isName p.hold
  ·simp[qb,qh]
  ·simp[qb,qh]
 have key:∀ (h nh:Bool) (s:St) (n:Nat),h=isHold p.hold->nh=noHold p->s.slots 1=.ptr 0 0 0->s.slots 3=.fn 231->s.slots 4=.bool h->s.slots 5=.bool p.wants.isEmpty->s.slots 6=.bool nh->s.heap 0=some (.box (p.c .bor))->s.next=n+1->s.base=0 ->
   fin [.tmp 2] 0 (X F [.code sw218] (.normal,s))=some (.str (formSw p (isHold p.hold) (noHold p)),[]):=fun h nh s n e1 e2 s1 s3 s4 s5 s6 h0 hn hba=>by
  subst e1;subst e2
  exact Zsc p _ _ hs qb (fun e=>by simp only[isHold,Xc]at e;exact e.1) s n s1 s3 s4 s5 s6 h0 hn hba
 cases qh:isName p.hold
 ·have eh:isHold p.hold=false:=by simp[isHold,qh]
  cases e1:sEq p.hold ⟨#[]⟩
  ·have en:noHold p=false:=by simp[noHold,e1]
   simp[qb,qh,e1,hz]
   exact key false false _ _ eh.symm en.symm (by simp) (by simp) (by simp) (by simp) (by simp) (by simp) rfl rfl
  cases e2:sEq p.copy ⟨#[]⟩
  ·have en:noHold p=false:=by simp[noHold,e1,e2]
   simp[qb,qh,e1,e2,hz]
   exact key false false _ _ eh.symm en.symm (by simp) (by simp) (by simp) (by simp) (by simp) (by simp) rfl rfl
  by_cases e3:p.at_=0
  ·have en:noHold p=true:=by simp[noHold,e1,e2,e3]
   simp[qb,qh,e1,e2,e3,hz]
   exact key false true _ _ eh.symm en.symm (by simp) (by simp) (by simp) (by simp) (by simp) (by simp[e3]) rfl rfl
  ·have en:noHold p=false:=by simp[noHold,e1,e2,e3]
   simp[qb,qh,e1,e2,e3,hz]
   exact key false false _ _ eh.symm en.symm (by simp) (by simp) (by simp) (by simp) (by simp[e3]) (by simp) rfl rfl
 cases qs:sEq p.hold ⟨#[42]⟩
 ·have eh:isHold p.hold=true:=by simp[isHold,qh,qs]
  cases e1:sEq p.hold ⟨#[]⟩
  ·have en:noHold p=false:=by simp[noHold,e1]
   simp[qb,qh,qs,e1,hz]
   exact key true false _ _ eh.symm en.symm (by simp) (by simp) (by simp) (by simp) (by simp) (by simp) rfl rfl
  cases e2:sEq p.copy ⟨#[]⟩
  ·have en:noHold p=false:=by simp[noHold,e1,e2]
   simp[qb,qh,qs,e1,e2,hz]
   exact key true false _ _ eh.symm en.symm (by simp) (by simp) (by simp) (by simp) (by simp) (by simp) rfl rfl
  by_cases e3:p.at_=0
  ·have en:noHold p=true:=by simp[noHold,e1,e2,e3]
   simp[qb,qh,qs,e1,e2,e3,hz]
   exact key true true _ _ eh.symm en.symm (by simp) (by simp) (by simp) (by simp) (by simp) (by simp[e3]) rfl rfl
  ·have en:noHold p=false:=by simp[noHold,e1,e2,e3]
   simp[qb,qh,qs,e1,e2,e3,hz]
   exact key true false _ _ eh.symm en.symm (by simp) (by simp) (by simp) (by simp) (by simp[e3]) (by simp) rfl rfl
 ·have eh:isHold p.hold=false:=by simp[isHold,qh,qs]
  cases e1:sEq p.hold ⟨#[]⟩
  ·have en:noHold p=false:=by simp[noHold,e1]
   simp[qb,qh,qs,e1,hz]
   exact key false false _ _ eh.symm en.symm (by simp) (by simp) (by simp) (by simp) (by simp) (by simp) rfl rfl
  cases e2:sEq p.copy ⟨#[]⟩
  ·have en:noHold p=false:=by simp[noHold,e1,e2]
   simp[qb,qh,qs,e1,e2,hz]
   exact key false false _ _ eh.symm en.symm (by simp) (by simp) (by simp) (by simp) (by simp) (by simp) rfl rfl
  by_cases e3:p.at_=0
  ·have en:noHold p=true:=by simp[noHold,e1,e2,e3]
   simp[qb,qh,qs,e1,e2,e3,hz]
   exact key false true _ _ eh.symm en.symm (by simp) (by simp) (by simp) (by simp) (by simp) (by simp[e3]) rfl rfl
  ·have en:noHold p=false:=by simp[noHold,e1,e2,e3]
   simp[qb,qh,qs,e1,e2,e3,hz]
   exact key false false _ _ eh.symm en.symm (by simp) (by simp) (by simp) (by simp) (by simp[e3]) (by simp) rfl rfl
def headG(p:Parcel)(i:Nat)(acc:T):St:=hd [(1,.ptr 0 0 0),(4,.str acc),(5,.int .i64 i)] [.box (p.c .bor)] 0
theorem Zn2{fs:List Fr}(p:Parcel)(acc:T)(hl:p.wants.length<=1048576)(hok:∀ w∈p.wants,wantOk w=true)(ha:acc.size<=1000)(s:St)(hs:s.norm [1,4,5]=headG p 0 acc)(hf:∀ (r:T) (s':St),s'.slots 4=.str r->s'.base=0->fin [.tmp 2] 0 (X F fs (.exit 1,s'))=some (.str r,[])) :
  fin [.tmp 2] 0 (X F (.code (.loop [1,4,5] c236b0)::fs) (.normal,s))=some (.str (formWants acc p.wants),[]):=by
 refine (Zaa p.wants (fun i (acc:T)=>headG p i acc) (fun i acc=>acc.size<=1000+90*i) (fun _ r acc=>(.str (formWants acc r),[])) (fun acc Y hinv=>?_) (fun i w r acc Y hw hi hr hinv hY=>?_) acc hs (by simpa using ha) ?_).trans rfl
 ·simp[headG,c236b0,formWants]
  exact hf acc _ (by simp) rfl
 ·have hw1:IntKind.i64.wrap ((i:Int)+1)=(i:Int)+1:=i64w (by omega) (by omega)
  obtain⟨_,hg⟩:=Xa.1 hw
  have hiI:(i:Int)<p.wants.length:=by omega
  have hfit:=Zc7 (hok w (Xe hw))
  have hfs:=Zcz hfit
  have a1:=law240 w hfit
  simp only[Want.c]at a1
  have e2:acc.size+(formWant w).size<=9223372036854775807:=by omega
  have hY':=fun s' h=>hY (acc++formWant w) s' (by rw[Zap];omega) h
  simp only[formWants]
  simp[headG,c236b0,hiI,hi,hg,a1,e2]
  exact hY' _ (by simp[headG,hw1])
 ·unfold big;omega
theorem law236(p:Parcel)(hs:p.small):F 236 [.agg (p.c .bor)] []=some (.str (parcelForm p),[]):=by
 refine Zae fn236 rfl ?_
 unfold parcelForm
 have hz:p.wants≠[]->(0:Int)<p.wants.length:=fun h=>by
  have:=Xcn.2 h
  omega
 cases qb:isName p.berth
 ·simp[c236,qb]
 have hbs:=Zag qb
 have tail:∀ (h:Bool),h=(isHold p.hold && inR p.at_ 0 1000000)->∀ (s:St) (n:Nat),s.slots 1=.ptr 0 0 0->s.slots 3=.bool h->s.heap 0=some (.box (p.c .bor))->s.next=n+1->s.base=0->(p.kind≠1->p.wants.isEmpty=true)->(p.kind≠1->p.kind≠6->p.seen=0) ->
   fin [.tmp 2] 0 (X F [.code sw236] (.normal,s))=some (.str (formSw p (isHold p.hold) (noHold p)),[]):=by
  intro h eh s n s1 s3 h0 hn hba g1 g2
  by_cases k1:p.kind=1
  ·have w2:=law7 p.wants (by have:=hs.wants;unfold big;omega)
   cases q2:wantsOk p.wants
   ·simp[sw236,formSw,s1,s3,h0,hn,hba,k1,q2,w2]
   cases q1:inR p.seen 1 1000000
   ·simp[sw236,formSw,s1,s3,h0,hn,hba,k1,q1,q2,w2]
   cases e1:sEq p.hold ⟨#[]⟩
   ·have en:noHold p=false:=by simp[noHold,e1]
    simp[sw236,formSw,s1,s3,h0,hn,hba,k1,q1,q2,w2,e1,en]
   cases e2:sEq p.copy ⟨#[]⟩
   ·have en:noHold p=false:=by simp[noHold,e1,e2]
    simp[sw236,formSw,s1,s3,h0,hn,hba,k1,q1,q2,w2,e1,e2,en]
   by_cases e3:p.at_=0
   case neg =>
    have en:noHold p=false:=by simp[noHold,e1,e2,e3]
    simp[sw236,formSw,s1,s3,h0,hn,hba,k1,q1,q2,w2,e1,e2,e3,en]
   have en:noHold p=true:=by simp[noHold,e1,e2,e3]
   obtain⟨r1,r2⟩:=Zbb q1
   obtain⟨a1,b1⟩:=law140' p.seen (by omega) (by omega)
   have z1:(⟨#[116,111,108,100,32]⟩:T).size=5:=rfl
   have z2:(⟨#[32]⟩:T).size=1:=rfl
   have z3:(⟨#[10]⟩:T).size=1:=rfl
   have y2:(⟨#[116,111,108,100,32]⟩:T).size+(p.berth).size<=9223372036854775807:=by omega
   have y3:(⟨#[116,111,108,100,32]⟩:T).size+(p.berth).size+(⟨#[32]⟩:T).size<=9223372036854775807:=by omega
   have y4:(⟨#[116,111,108,100,32]⟩:T).size+(p.berth).size+(⟨#[32]⟩:T).size+(dec p.seen.toNat).size<=9223372036854775807:=by omega
   have y5:(⟨#[116,111,108,100,32]⟩:T).size+(p.berth).size+(⟨#[32]⟩:T).size+(dec p.seen.toNat).size+(⟨#[10]⟩:T).size<=9223372036854775807:=by omega
   simp[sw236,formSw,s1,s3,h0,hn,hba,k1,q1,q2,w2,e1,e2,e3,en,a1,y2,y3,y4,y5]
   refine Zn2 p (toldHead p) hs.wants (fun w hw=>((Zaq _).1 q2).2.1 w hw) ?_ _ ?_ (fun r s' h7 hb=>?_)
   ·unfold toldHead
    simp only[Zap]
    omega
   ·simp[headG,toldHead,h0]
   ·simp[h7,hb]
  have g1:=g1 k1
  by_cases k2:p.kind=2
  ·have g2:=g2 k1 (by omega)
   cases q0:h
   ·have e0:(isHold p.hold && inR p.at_ 0 1000000)=false:=by rw[<- eh,q0]
    simp[sw236,formSw,s1,s3,h0,hn,hba,k1,k2,q0]
    intro u1 u2 u3
    rw[u1,u3]at e0
    cases e0
   rw[q0]at eh
   obtain⟨q1,q2⟩:=Xcg.1 eh.symm
   have hhs:=Zag (by simp only[isHold,Xc]at q1;exact q1.1)
   cases q3:isName p.copy
   ·simp[sw236,formSw,s1,s3,h0,hn,hba,k1,k2,q0,q1,q2,q3]
   have hcs:=Zag q3
   obtain⟨r1,r2⟩:=Zbb q2
   obtain⟨a1,b1⟩:=law140' p.at_ (by omega) (by omega)
   have u0:IntKind.i64.wrap 0=0:=by decide
   have u1:IntKind.i64.wrap 1=1:=by decide
   have u2:IntKind.i64.wrap 2=2:=by decide
   have z1:(⟨#[97,115,107,101,100,32]⟩:T).size=6:=rfl
   have z2:(⟨#[32]⟩:T).size=1:=rfl
   have z3:(⟨#[10]⟩:T).size=1:=rfl
   have y2:(⟨#[97,115,107,101,100,32]⟩:T).size+(p.berth).size<=9223372036854775807:=by omega
   have y3:(⟨#[97,115,107,101,100,32]⟩:T).size+(p.berth).size+(⟨#[32]⟩:T).size<=9223372036854775807:=by omega
   have y4:(⟨#[97,115,107,101,100,32]⟩:T).size+(p.berth).size+(⟨#[32]⟩:T).size+(p.hold).size<=9223372036854775807:=by omega
   have y5:(⟨#[97,115,107,101,100,32]⟩:T).size+(p.berth).size+(⟨#[32]⟩:T).size+(p.hold).size+(⟨#[32]⟩:T).size<=9223372036854775807:=by omega
   have y6:(⟨#[97,115,107,101,100,32]⟩:T).size+(p.berth).size+(⟨#[32]⟩:T).size+(p.hold).size+(⟨#[32]⟩:T).size+(p.copy).size<=9223372036854775807:=by omega
   have y7:(⟨#[97,115,107,101,100,32]⟩:T).size+(p.berth).size+(⟨#[32]⟩:T).size+(p.hold).size+(⟨#[32]⟩:T).size+(p.copy).size+(⟨#[32]⟩:T).size<=9223372036854775807:=by omega
   have y8:(⟨#[97,115,107,101,100,32]⟩:T).size+(p.berth).size+(⟨#[32]⟩:T).size+(p.hold).size+(⟨#[32]⟩:T).size+(p.copy).size+(⟨#[32]⟩:T).size+(dec p.at_.toNat).size<=9223372036854775807:=by omega
   have y9:(⟨#[97,115,107,101,100,32]⟩:T).size+(p.berth).size+(⟨#[32]⟩:T).size+(p.hold).size+(⟨#[32]⟩:T).size+(p.copy).size+(⟨#[32]⟩:T).size+(dec p.at_.toNat).size+(⟨#[10]⟩:T).size<=9223372036854775807:=by omega
   simp[sw236,formSw,s1,s3,h0,hn,hba,k1,k2,q0,q1,q2,q3,g1,g2,a1,word,u0,u1,u2,y2,y3,y4,y5,y6,y7,y8,y9]
  by_cases k3:p.kind=3
  ·have g2:=g2 k1 (by omega)
   cases q0:h
   ·have e0:(isHold p.hold && inR p.at_ 0 1000000)=false:=by rw[<- eh,q0]
    simp[sw236,formSw,s1,s3,h0,hn,hba,k1,k2,k3,q0]
    intro u1 u2 u3
    rw[u1,u3]at e0
    cases e0
   rw[q0]at eh
   obtain⟨q1,q2⟩:=Xcg.1 eh.symm
   have hhs:=Zag (by simp only[isHold,Xc]at q1;exact q1.1)
   cases q3:isName p.copy
   ·simp[sw236,formSw,s1,s3,h0,hn,hba,k1,k2,k3,q0,q1,q2,q3]
   have hcs:=Zag q3
   obtain⟨r1,r2⟩:=Zbb q2
   obtain⟨a1,b1⟩:=law140' p.at_ (by omega) (by omega)
   have u0:IntKind.i64.wrap 0=0:=by decide
   have u1:IntKind.i64.wrap 1=1:=by decide
   have u2:IntKind.i64.wrap 2=2:=by decide
   have z1:(⟨#[103,105,118,101,110,32]⟩:T).size=6:=rfl
   have z2:(⟨#[32]⟩:T).size=1:=rfl
   have z3:(⟨#[10]⟩:T).size=1:=rfl
   have y2:(⟨#[103,105,118,101,110,32]⟩:T).size+(p.berth).size<=9223372036854775807:=by omega
   have y3:(⟨#[103,105,118,101,110,32]⟩:T).size+(p.berth).size+(⟨#[32]⟩:T).size<=9223372036854775807:=by omega
   have y4:(⟨#[103,105,118,101,110,32]⟩:T).size+(p.berth).size+(⟨#[32]⟩:T).size+(p.hold).size<=9223372036854775807:=by omega
   have y5:(⟨#[103,105,118,101,110,32]⟩:T).size+(p.berth).size+(⟨#[32]⟩:T).size+(p.hold).size+(⟨#[32]⟩:T).size<=9223372036854775807:=by omega
   have y6:(⟨#[103,105,118,101,110,32]⟩:T).size+(p.berth).size+(⟨#[32]⟩:T).size+(p.hold).size+(⟨#[32]⟩:T).size+(p.copy).size<=9223372036854775807:=by omega
   have y7:(⟨#[103,105,118,101,110,32]⟩:T).size+(p.berth).size+(⟨#[32]⟩:T).size+(p.hold).size+(⟨#[32]⟩:T).size+(p.copy).size+(⟨#[32]⟩:T).size<=9223372036854775807:=by omega
   have y8:(⟨#[103,105,118,101,110,32]⟩:T).size+(p.berth).size+(⟨#[32]⟩:T).size+(p.hold).size+(⟨#[32]⟩:T).size+(p.copy).size+(⟨#[32]⟩:T).size+(dec p.at_.toNat).size<=9223372036854775807:=by omega
   have y9:(⟨#[103,105,118,101,110,32]⟩:T).size+(p.berth).size+(⟨#[32]⟩:T).size+(p.hold).size+(⟨#[32]⟩:T).size+(p.copy).size+(⟨#[32]⟩:T).size+(dec p.at_.toNat).size+(⟨#[10]⟩:T).size<=9223372036854775807:=by omega
   simp[sw236,formSw,s1,s3,h0,hn,hba,k1,k2,k3,q0,q1,q2,q3,g1,g2,a1,word,u0,u1,u2,y2,y3,y4,y5,y6,y7,y8,y9]
  by_cases k4:p.kind=4
  ·have g2:=g2 k1 (by omega)
   cases q0:h
   ·have e0:(isHold p.hold && inR p.at_ 0 1000000)=false:=by rw[<- eh,q0]
    simp[sw236,formSw,s1,s3,h0,hn,hba,k1,k2,k3,k4,q0]
    intro u1 u2 u3
    rw[u1,u3]at e0
    cases e0
   rw[q0]at eh
   obtain⟨q1,q2⟩:=Xcg.1 eh.symm
   have hhs:=Zag (by simp only[isHold,Xc]at q1;exact q1.1)
   cases q3:isName p.copy
   ·simp[sw236,formSw,s1,s3,h0,hn,hba,k1,k2,k3,k4,q0,q1,q2,q3]
   have hcs:=Zag q3
   obtain⟨r1,r2⟩:=Zbb q2
   obtain⟨a1,b1⟩:=law140' p.at_ (by omega) (by omega)
   have u0:IntKind.i64.wrap 0=0:=by decide
   have u1:IntKind.i64.wrap 1=1:=by decide
   have u2:IntKind.i64.wrap 2=2:=by decide
   have z1:(⟨#[98,97,99,107,32]⟩:T).size=5:=rfl
   have z2:(⟨#[32]⟩:T).size=1:=rfl
   have z3:(⟨#[10]⟩:T).size=1:=rfl
   have y2:(⟨#[98,97,99,107,32]⟩:T).size+(p.berth).size<=9223372036854775807:=by omega
   have y3:(⟨#[98,97,99,107,32]⟩:T).size+(p.berth).size+(⟨#[32]⟩:T).size<=9223372036854775807:=by omega
   have y4:(⟨#[98,97,99,107,32]⟩:T).size+(p.berth).size+(⟨#[32]⟩:T).size+(p.hold).size<=9223372036854775807:=by omega
   have y5:(⟨#[98,97,99,107,32]⟩:T).size+(p.berth).size+(⟨#[32]⟩:T).size+(p.hold).size+(⟨#[32]⟩:T).size<=9223372036854775807:=by omega
   have y6:(⟨#[98,97,99,107,32]⟩:T).size+(p.berth).size+(⟨#[32]⟩:T).size+(p.hold).size+(⟨#[32]⟩:T).size+(p.copy).size<=9223372036854775807:=by omega
   have y7:(⟨#[98,97,99,107,32]⟩:T).size+(p.berth).size+(⟨#[32]⟩:T).size+(p.hold).size+(⟨#[32]⟩:T).size+(p.copy).size+(⟨#[32]⟩:T).size<=9223372036854775807:=by omega
   have y8:(⟨#[98,97,99,107,32]⟩:T).size+(p.berth).size+(⟨#[32]⟩:T).size+(p.hold).size+(⟨#[32]⟩:T).size+(p.copy).size+(⟨#[32]⟩:T).size+(dec p.at_.toNat).size<=9223372036854775807:=by omega
   have y9:(⟨#[98,97,99,107,32]⟩:T).size+(p.berth).size+(⟨#[32]⟩:T).size+(p.hold).size+(⟨#[32]⟩:T).size+(p.copy).size+(⟨#[32]⟩:T).size+(dec p.at_.toNat).size+(⟨#[10]⟩:T).size<=9223372036854775807:=by omega
   simp[sw236,formSw,s1,s3,h0,hn,hba,k1,k2,k3,k4,q0,q1,q2,q3,g1,g2,a1,word,u0,u1,u2,y2,y3,y4,y5,y6,y7,y8,y9]
  by_cases k5:p.kind=5
  ·have g2:=g2 k1 (by omega)
   cases q0:h
   ·have e0:(isHold p.hold && inR p.at_ 0 1000000)=false:=by rw[<- eh,q0]
    simp[sw236,formSw,s1,s3,h0,hn,hba,k1,k2,k3,k4,k5,q0]
    intro u1 u2 u3
    rw[u1,u3]at e0
    cases e0
   rw[q0]at eh
   obtain⟨q1,q2⟩:=Xcg.1 eh.symm
   have hhs:=Zag (by simp only[isHold,Xc]at q1;exact q1.1)
   cases q3:sEq p.copy ⟨#[]⟩
   ·simp[sw236,formSw,s1,s3,h0,hn,hba,k1,k2,k3,k4,k5,q0,q1,q2,q3]
   obtain⟨r1,r2⟩:=Zbb q2
   obtain⟨a1,b1⟩:=law140' p.at_ (by omega) (by omega)
   have z1:(⟨#[103,111,116,98,97,99,107,32]⟩:T).size=8:=rfl
   have z2:(⟨#[32]⟩:T).size=1:=rfl
   have z3:(⟨#[10]⟩:T).size=1:=rfl
   have y2:(⟨#[103,111,116,98,97,99,107,32]⟩:T).size+(p.berth).size<=9223372036854775807:=by omega
   have y3:(⟨#[103,111,116,98,97,99,107,32]⟩:T).size+(p.berth).size+(⟨#[32]⟩:T).size<=9223372036854775807:=by omega
   have y4:(⟨#[103,111,116,98,97,99,107,32]⟩:T).size+(p.berth).size+(⟨#[32]⟩:T).size+(p.hold).size<=9223372036854775807:=by omega
   have y5:(⟨#[103,111,116,98,97,99,107,32]⟩:T).size+(p.berth).size+(⟨#[32]⟩:T).size+(p.hold).size+(⟨#[32]⟩:T).size<=9223372036854775807:=by omega
   have y6:(⟨#[103,111,116,98,97,99,107,32]⟩:T).size+(p.berth).size+(⟨#[32]⟩:T).size+(p.hold).size+(⟨#[32]⟩:T).size+(dec p.at_.toNat).size<=9223372036854775807:=by omega
   have y7:(⟨#[103,111,116,98,97,99,107,32]⟩:T).size+(p.berth).size+(⟨#[32]⟩:T).size+(p.hold).size+(⟨#[32]⟩:T).size+(dec p.at_.toNat).size+(⟨#[10]⟩:T).size<=9223372036854775807:=by omega
   simp[sw236,formSw,s1,s3,h0,hn,hba,k1,k2,k3,k4,k5,q0,q1,q2,q3,g1,g2,a1,y2,y3,y4,y5,y6,y7]
  by_cases k6:p.kind=6
  ·cases q1:inR p.seen 0 1000000
   ·simp[sw236,formSw,s1,s3,h0,hn,hba,k1,k2,k3,k4,k5,k6,q1]
   cases e1:sEq p.hold ⟨#[]⟩
   ·have en:noHold p=false:=by simp[noHold,e1]
    simp[sw236,formSw,s1,s3,h0,hn,hba,k1,k2,k3,k4,k5,k6,q1,e1,en]
   cases e2:sEq p.copy ⟨#[]⟩
   ·have en:noHold p=false:=by simp[noHold,e1,e2]
    simp[sw236,formSw,s1,s3,h0,hn,hba,k1,k2,k3,k4,k5,k6,q1,e1,e2,en]
   by_cases e3:p.at_=0
   case neg =>
    have en:noHold p=false:=by simp[noHold,e1,e2,e3]
    simp[sw236,formSw,s1,s3,h0,hn,hba,k1,k2,k3,k4,k5,k6,q1,e1,e2,e3,en]
   have en:noHold p=true:=by simp[noHold,e1,e2,e3]
   obtain⟨r1,r2⟩:=Zbb q1
   obtain⟨a1,b1⟩:=law140' p.seen (by omega) (by omega)
   have z1:(⟨#[104,101,114,101,32]⟩:T).size=5:=rfl
   have z2:(⟨#[32]⟩:T).size=1:=rfl
   have z3:(⟨#[10]⟩:T).size=1:=rfl
   have y2:(⟨#[104,101,114,101,32]⟩:T).size+(p.berth).size<=9223372036854775807:=by omega
   have y3:(⟨#[104,101,114,101,32]⟩:T).size+(p.berth).size+(⟨#[32]⟩:T).size<=9223372036854775807:=by omega
   have y4:(⟨#[104,101,114,101,32]⟩:T).size+(p.berth).size+(⟨#[32]⟩:T).size+(dec p.seen.toNat).size<=9223372036854775807:=by omega
   have y5:(⟨#[104,101,114,101,32]⟩:T).size+(p.berth).size+(⟨#[32]⟩:T).size+(dec p.seen.toNat).size+(⟨#[10]⟩:T).size<=9223372036854775807:=by omega
   simp[sw236,formSw,s1,s3,h0,hn,hba,k1,k2,k3,k4,k5,k6,q1,e1,e2,e3,en,g1,a1,y2,y3,y4,y5]
  ·simp[sw236,formSw,s1,s3,h0,hn,hba,k1,k2,k3,k4,k5,k6]
 cases qh:isHold p.hold
 ·rw[qh]at tail
  by_cases k1:p.kind=1
  ·simp[c236_cut,qb,qh,k1]
   exact tail false (by simp) _ _ (by simp) (by simp) (by simp[k1]) rfl rfl (fun h=>absurd k1 h) (fun h=>absurd k1 h)
  by_cases qw:p.wants=[]
  case neg =>
   have hz:=hz qw
   simp[c236_cut,qb,qh,k1,hz,qw,formSw]
  by_cases k6:p.kind=6
  ·simp[c236_cut,qb,qh,k6,qw]
   exact tail false (by simp) _ _ (by simp) (by simp) (by simp[k6,qw]) rfl rfl (fun _=>by simp[qw]) (fun _ h=>absurd k6 h)
  by_cases q0:p.seen=0
  ·simp[c236_cut,qb,qh,k1,k6,qw,q0]
   exact tail false (by simp) _ _ (by simp) (by simp) (by simp[q0,qw]) rfl rfl (fun _=>by simp[qw]) (fun _ _=>q0)
  ·simp[c236_cut,qb,qh,k1,k6,qw,q0,formSw]
 ·rw[qh]at tail
  cases qa:inR p.at_ 0 1000000
  ·rw[qa]at tail
   by_cases k1:p.kind=1
   ·simp[c236_cut,qb,qh,qa,k1]
    exact tail false (by simp) _ _ (by simp) (by simp) (by simp[k1]) rfl rfl (fun h=>absurd k1 h) (fun h=>absurd k1 h)
   by_cases qw:p.wants=[]
   case neg =>
    have hz:=hz qw
    simp[c236_cut,qb,qh,qa,k1,hz,qw,formSw]
   by_cases k6:p.kind=6
   ·simp[c236_cut,qb,qh,qa,k6,qw]
    exact tail false (by simp) _ _ (by simp) (by simp) (by simp[k6,qw]) rfl rfl (fun _=>by simp[qw]) (fun _ h=>absurd k6 h)
   by_cases q0:p.seen=0
   ·simp[c236_cut,qb,qh,qa,k1,k6,qw,q0]
    exact tail false (by simp) _ _ (by simp) (by simp) (by simp[q0,qw]) rfl rfl (fun _=>by simp[qw]) (fun _ _=>q0)
   ·simp[c236_cut,qb,qh,qa,k1,k6,qw,q0,formSw]
  ·rw[qa]at tail
   by_cases k1:p.kind=1
   ·simp[c236_cut,qb,qh,qa,k1]
    exact tail true (by simp) _ _ (by simp) (by simp) (by simp[k1]) rfl rfl (fun h=>absurd k1 h) (fun h=>absurd k1 h)
   by_cases qw:p.wants=[]
   case neg =>
    have hz:=hz qw
    simp[c236_cut,qb,qh,qa,k1,hz,qw,formSw]
   by_cases k6:p.kind=6
   ·simp[c236_cut,qb,qh,qa,k6,qw]
    exact tail true (by simp) _ _ (by simp) (by simp) (by simp[k6,qw]) rfl rfl (fun _=>by simp[qw]) (fun _ h=>absurd k6 h)
   by_cases q0:p.seen=0
   ·simp[c236_cut,qb,qh,qa,k1,k6,qw,q0]
    exact tail true (by simp) _ _ (by simp) (by simp) (by simp[q0,qw]) rfl rfl (fun _=>by simp[qw]) (fun _ _=>q0)
   ·simp[c236_cut,qb,qh,qa,k1,k6,qw,q0,formSw]
def mkT(l:List UInt8):T:=⟨l.toArray⟩
def cutA(b:UInt8):List UInt8->List UInt8->List (List UInt8)
 | pre,[]=>[pre]
 | pre,x::r=>if x=b then pre::cutA b [] r else cutA b (pre++[x]) r
def cutT(s:T)(b:UInt8):List T:=(cutA b [] s.data.toList).map mkT
theorem Zjw(l:List UInt8):(mkT l).data.toList=l:=rfl
theorem Zff(s:T)(a b:Nat):s.extract a b=mkT ((s.data.toList.take b).drop a):=by
 apply Zb8
 rw[Zjw,Lib.extract_data]
 simp[List.drop_take]
theorem Zky(x:T):rowsPlain [[AV.str x]]=true:=rfl
def head194(s:T)(b:Int)(i:Nat)(o:List T×Nat):St:=hd [(0,.str s),(1,.int .u8 b),(5,.ref 0),(6,.int .i64 o.2),(7,.int .i64 i)] [.arr 1 (o.1.map fun x=>[.str x])] 0
theorem law194(s:T)(b:UInt8)(n:Int)(hn:n=b.toNat)(hs:s.size<=1048576):F 194 [.str s,.int .u8 n] []=some (.sl .own 1 ((cutT s b).map fun x=>[.str x]),[]):=by
 refine Zae fn194 rfl ?_
 simp[c194]
 refine (Zaa s.data.toList (fun i o=>head194 s n i o) (fun i (o:List T×Nat)=>o.2<=i/\o.1.length<=i) (fun i r o=>(.sl .own 1 ((o.1++(cutA b ((s.data.toList.take i).drop o.2) r).map mkT).map fun x=>[.str x]),[])) (fun o Y hinv=>?_) (fun i a r o Y ha hi hr hinv hY=>?_) ([],0) ?_ ⟨Xo _,Xo _⟩ ?_).trans ?_
 ·obtain⟨out,from_⟩:=o
  obtain⟨i1,i2⟩:=hinv
  simp only at i1 i2
  rw[Zal]at i1 i2 ⊢
  have e:=Zff s from_ s.size
  have h1:(from_:Int)<=s.size:=by omega
  have h2:(out.length+1)*16<=140737488355328:=by omega
  have h3:out.length+1<=140737488355328:=by omega
  simp[head194,c194b0,cutA,slBounds,takeRows,Zky,i1,h1,h2,h3,e]
 ·obtain⟨out,from_⟩:=o
  obtain⟨i1,i2⟩:=hinv
  simp only at i1 i2
  have hi2:i<s.size:=by rw[<- Zal];exact hi
  have hiI:(i:Int)<s.size:=by omega
  have hw:IntKind.i64.wrap ((i:Int)+1)=(i:Int)+1:=i64w (by omega) (by omega)
  have ha':s.data[i]?=some a:=by simpa using ha
  have e:=Zff s from_ i
  have h1:(from_:Int)<=i:=by omega
  have h2:(out.length+1)*16<=140737488355328:=by omega
  have h3:out.length+1<=140737488355328:=by omega
  have h4:i<=s.size:=by omega
  have ht:(s.data.toList.take (i+1)).drop from_=(s.data.toList.take i).drop from_++[a]:=by
   rw[Xax,ha,Option.toList_some,List.drop_append_of_le_length (by rw[Xbj];omega)]
  by_cases q:a=b
  ·subst q
   have q2:(a.toNat:Int)=n:=hn.symm
   have hY':=fun s' h=>hY (out++[mkT ((s.data.toList.take i).drop from_)],i+1) s' ⟨Xo _,by simp only[Xs,Xbm];omega⟩ h
   have ht2:(s.data.toList.take (i+1)).drop (i+1)=[]:=List.drop_eq_nil_of_le (by rw[Xbj];omega)
   simp only[ht2]at hY'
   simp[head194,c194b0,hiI,ha',cutA,slBounds,takeRows,Zky,h1,h2,h3,h4,e,q2,hw]
   rw[hY' _ (by simp[head194,hw])]
   simp
  ·have q2:¬ (a.toNat:Int)=n:=by rw[hn];intro h;exact q (UInt8.toNat_inj.1 (by omega))
   have hY':=fun s' h=>hY (out,from_) s' ⟨Xy i1,Xy i2⟩ h
   simp only[ht]at hY'
   simp[head194,c194b0,hiI,ha',cutA,q,q2]
   rw[hY' _ (by simp[head194,hw])]
   simp
 ·simp[head194]
 ·rw[Zal];unfold big;omega
 ·simp[cutT]
def atW(ws:List T)(k:Nat):T:=ws.getD k ⟨#[]⟩
theorem law239(ws:List T)(k:Nat):F 239 [.sl .bor 1 (ws.map fun x=>[.str x]),.int .i64 k] []=some (.str (atW ws k),[]):=by
 refine Zae fn239 rfl ?_
 by_cases h:k<ws.length
 ·have hI:(k:Int)<ws.length:=by omega
  simp[c239,h,hI,atW,List.getD]
 ·have hI:¬ (k:Int)<ws.length:=by omega
  simp[c239,hI,atW,List.getD,List.getElem?_eq_none (Nat.le_of_not_lt h)]
def digs:Int->List UInt8->Option Int
 | a,[]=>some a
 | a,x::r=>if 48<=x.toNat/\x.toNat<=57 then digs (a*10+(x.toNat-48:Int)) r else none
def num7(s:T):Int:=if 1<=s.size/\s.size<=7 then match digs 0 s.data.toList with
  | some n=>if sEq (dec n.toNat) s then n else -1
  | none=>-1
 else -1
def head226(s:T)(i:Nat)(a:Int):St:=hd [(0,.str s),(3,.int .i64 a),(4,.int .i64 i)] [] 0
theorem law226(s:T):F 226 [.str s] []=some (.int .i64 (num7 s),[]):=by
 refine Zae fn226 rfl ?_
 simp[c226,num7]
 by_cases h1:1<=s.size
 ·by_cases h2:s.size<=7
  ·have h3:1<=(s.size:Int):=by omega
   have h4:¬ 7<(s.size:Int):=by omega
   have hp:∀ i:Nat,i<7->(10 ^ i:Int)<=1000000:=fun i hi=>by
    have:(10:Int) ^ i=((10 ^ i:Nat):Int):=by norm_cast
    have h6:10 ^ i<=10 ^ 6:=Nat.pow_le_pow_right (by omega) (by omega)
    omega
   simp[h1,h2,h3,h4]
   refine (Zaa s.data.toList (fun i a=>head226 s i a) (fun i (a:Int)=>0<=a/\a<10 ^ i) (fun i r a=>(AV.int .i64 (match digs a r with
    | some n=>if sEq (dec n.toNat) s then n else -1
    | none=>-1),[])) (fun a Y hinv=>?_) (fun i x r a Y ha hi hr hinv hY=>?_) 0 ?_ ⟨by omega,by simp⟩ ?_).trans ?_
   ·obtain⟨a0,a1⟩:=hinv
    rw[Zal]at a1 ⊢
    have a2:a<10000000:=by
     have h6:(10:Nat) ^ s.size<=10 ^ 7:=Nat.pow_le_pow_right (by omega) h2
     have:(10:Int) ^ s.size=((10 ^ s.size:Nat):Int):=by norm_cast
     omega
    have hd:=law140 a.toNat (by omega)
    rw[show ((a.toNat:Nat):Int)=a from by omega]at hd
    simp[head226,c226b0,digs,hd]
    cases q:sEq (dec a.toNat) s<;>simp
   ·obtain⟨a0,a1⟩:=hinv
    rw[Zal]at hi
    have a2:a<1000000:=by
     have h6:(10:Nat) ^ i<=10 ^ 6:=Nat.pow_le_pow_right (by omega) (by omega)
     have:(10:Int) ^ i=((10 ^ i:Nat):Int):=by norm_cast
     omega
    have hiI:(i:Int)<s.size:=by omega
    have hw:IntKind.i64.wrap ((i:Int)+1)=(i:Int)+1:=i64w (by omega) (by omega)
    have ha':s.data[i]?=some x:=by simpa using ha
    have hx:x.toNat<256:=x.toNat_lt
    by_cases k1:48<=x.toNat
    ·by_cases k2:x.toNat<=57
     ·have k3:¬ (x.toNat:Int)<48:=by omega
      have k4:¬ 57<(x.toNat:Int):=by omega
      have w1:IntKind.i64.wrap (a*10)=a*10:=i64w (by omega) (by omega)
      have w2:IntKind.u8.wrap ((x.toNat:Int)-48)=(x.toNat:Int)-48:=by
       simp[IntKind.wrap,IntKind.signed,IntKind.bits];omega
      have w3:IntKind.i64.wrap ((x.toNat:Int)-48)=(x.toNat:Int)-48:=i64w (by omega) (by omega)
      have w4:IntKind.i64.wrap (a*10+((x.toNat:Int)-48))=a*10+((x.toNat:Int)-48):=i64w (by omega) (by omega)
      have hY':=fun s' h=>hY (a*10+((x.toNat:Int)-48)) s' ⟨by omega,by rw[Int.pow_succ];omega⟩ h
      simp[head226,c226b0,hiI,ha',digs,k1,k2,k3,k4,w1,w2,w3,w4]
      exact hY' _ (by simp[head226,hw])
     ·have k3:¬ (x.toNat:Int)<48:=by omega
      have k4:57<(x.toNat:Int):=by omega
      simp[head226,c226b0,hiI,ha',digs,k1,k2,k3,k4]
    ·have k3:(x.toNat:Int)<48:=by omega
     simp[head226,c226b0,hiI,ha',digs,k1,k3]
   ·simp[head226]
   ·rw[Zal];unfold big;omega
   ·rfl
  ·have h3:1<=(s.size:Int):=by omega
   have h4:7<(s.size:Int):=by omega
   simp[h1,h2,h3,h4]
 ·have h3:¬ 1<=(s.size:Int):=by omega
  simp[h1,h3]
def tl235:CCode:=(.seq (jR [xd 113 0,uf 114 113,xd 115 114,qz 116 6 7 115,yn 117 236 116 115,ya 118 0 115,ui 119 117 118 115,xj 120 115 119] [2,6,120]
 (.cond (.tmp 120)
  (jR [⟨some 121,.build [.int .i64 0,.str ⟨#[]⟩,.int .i64 0,.sl .own 7 [],.str ⟨#[]⟩,.str ⟨#[]⟩,.int .i64 0] [],none⟩,xg 2 121 7,xm 3] [2,3]
  .ret)
  .skip))
 (jR [xf 122 6 7,xg 2 122 7,yh 3] [2,3]
 .ret))
theorem c235_cut:c235=⟨123,[.cell 2 7 true,.tmp 3],
 (jR [⟨some 2,.alloc [.int .i64 0,.str ⟨#[]⟩,.int .i64 0,.sl .own 7 [],.str ⟨#[]⟩,.str ⟨#[]⟩,.int .i64 0],none⟩,xm 3] [0,2]
 (jR [xd 10 0,⟨some 11,.call 194 [false,false] [.tmp 10,.const (.int .u8 10)],none⟩,xd 4 11] [0,2,4]
 (jR [xd 12 4,yl 13 1 12 0,xc 14 13,⟨some 15,.call 194 [false,false] [.tmp 14,.const (.int .u8 32)],none⟩,xd 5 15] [0,2,4,5]
 (jR [xd 16 5,ym 17 16 1,⟨some 18,.build [.int .i64 0,.str ⟨#[]⟩,.int .i64 0,.sl .own 7 [],.str ⟨#[]⟩,.str ⟨#[]⟩,.int .i64 0] [(1,1,.tmp 17)],none⟩,⟨some 6,.alloc [.int .i64 0,.str ⟨#[]⟩,.int .i64 0,.sl .own 7 [],.str ⟨#[]⟩,.str ⟨#[]⟩,.int .i64 0],none⟩,xg 6 18 7] [0,2,4,5,6]
 (.seq (jR [xd 19 5,yl 20 1 19 0,xc 21 20] [0,2,4,5,6,21]
 (.block 0
  (jR [⟨some 23,.bin .eql (.tmp 21) (.const (.str ⟨#[116,111,108,100]⟩)),none⟩,xd 22 23] [0,2,4,5,6,21,22]
  (.cond (.tmp 22)
   (jR [xe 24 6 0,yt 24 1] [0,2,4,5,6]
   (jR [xd 25 5,ym 26 25 2,xt 27 226 26,xe 28 6 2,xg 28 27 1] [0,2,4,6]
   (jR [⟨some 7,.mov (.const (.int .i64 1)),none⟩] [0,2,4,6,7]
   (.block 1
    (.loop [0,2,4,6,7] c235b0)))))
   (.seq (jR [⟨some 72,.bin .eql (.tmp 21) (.const (.str ⟨#[97,115,107,101,100]⟩)),none⟩,xd 71 72] [0,2,5,6,21,71]
   (.cond (.tmp 71)
    .skip
    (jR [⟨some 73,.bin .eql (.tmp 21) (.const (.str ⟨#[103,105,118,101,110]⟩)),none⟩,xd 71 73] [0,2,5,6,21,71]
    (.cond (.tmp 71)
     .skip
     (.region [⟨some 74,.bin .eql (.tmp 21) (.const (.str ⟨#[98,97,99,107]⟩)),none⟩,xd 71 74] [0,2,5,6,21,71])))))
   (.cond (.tmp 71)
    (jR [xe 75 6 0,yt 75 2] [0,2,5,6]
    (.seq (jR [xd 76 5,yl 77 1 76 0,xc 78 77,⟨some 79,.bin .eql (.tmp 78) (.const (.str ⟨#[103,105,118,101,110]⟩)),none⟩] [0,2,5,6,79]
    (.cond (.tmp 79)
     (.region [xe 80 6 0,yt 80 3] [0,2,5,6])
     .skip))
    (.seq (jR [xd 81 5,yl 82 1 81 0,xc 83 82,⟨some 84,.bin .eql (.tmp 83) (.const (.str ⟨#[98,97,99,107]⟩)),none⟩] [0,2,5,6,84]
    (.cond (.tmp 84)
     (.region [xe 85 6 0,yt 85 4] [0,2,5,6])
     .skip))
    (jR [xd 86 5,ym 87 86 2,xe 88 6 4,xg 88 87 1] [0,2,5,6]
    (jR [xd 89 5,ym 90 89 3,xe 91 6 5,xg 91 90 1] [0,2,5,6]
    (.region [xd 92 5,ym 93 92 4,xt 94 226 93,xe 95 6 6,xg 95 94 1] [0,2,6]))))))
    (jR [⟨some 97,.bin .eql (.tmp 21) (.const (.str ⟨#[103,111,116,98,97,99,107]⟩)),none⟩,xd 96 97] [0,2,5,6,21,96]
    (.cond (.tmp 96)
     (jR [xe 98 6 0,yt 98 5] [0,2,5,6]
     (jR [xd 99 5,ym 100 99 2,xe 101 6 4,xg 101 100 1] [0,2,5,6]
     (.region [xd 102 5,ym 103 102 3,xt 104 226 103,xe 105 6 6,xg 105 104 1] [0,2,6])))
     (jR [⟨some 107,.bin .eql (.tmp 21) (.const (.str ⟨#[104,101,114,101]⟩)),none⟩,xd 106 107] [0,2,5,6,106]
     (.cond (.tmp 106)
      (jR [xe 108 6 0,yt 108 6] [0,2,5,6]
      (.region [xd 109 5,ym 110 109 2,xt 111 226 110,xe 112 6 2,xg 112 111 1] [0,2,6]))
      .skip))))))))))
 tl235)))))⟩:=rfl
theorem Zoz(b:UInt8):∀ (l pre:List UInt8),∃ x r,cutA b pre l=x::r
 | [],pre=>⟨_,_,rfl⟩
 | a::l,pre=>by
  rw[cutA]
  split
  ·exact⟨_,_,rfl⟩
  ·exact Zoz b l _
theorem Zfc(s:T)(b:UInt8):∃ x r,cutT s b=x::r:=by
 obtain⟨x,r,h⟩:=Zoz b s.data.toList []
 exact⟨mkT x,r.map mkT,by rw[cutT,h];rfl⟩
def unstar(h:T):T:=if sEq h ⟨#[42]⟩ then ⟨#[]⟩ else h
def readWant(vs:List T):Want:=⟨atW vs 1,num7 (atW vs 2),unstar (atW vs 3),num7 (atW vs 4),num7 (atW vs 5),num7 (atW vs 6),num7 (atW vs 7)⟩
def readLines(ls:List T):List Want:=ls.dropLast.map fun l=>readWant (cutT l 32)
def readKind(w:T):Int:=if sEq w ⟨#[98,97,99,107]⟩ then 4 else if sEq w ⟨#[103,105,118,101,110]⟩ then 3 else 2
def isAsk(w:T):Bool:=sEq w ⟨#[97,115,107,101,100]⟩ || (sEq w ⟨#[103,105,118,101,110]⟩ || sEq w ⟨#[98,97,99,107]⟩)
def readWords(w:T)(ws ls:List T):Parcel :=
 if sEq w ⟨#[116,111,108,100]⟩ then ⟨1,atW ws 1,num7 (atW ws 2),readLines ls,⟨#[]⟩,⟨#[]⟩,0⟩
 else if isAsk w then ⟨readKind w,atW ws 1,0,[],atW ws 2,atW ws 3,num7 (atW ws 4)⟩
 else if sEq w ⟨#[103,111,116,98,97,99,107]⟩ then ⟨5,atW ws 1,0,[],atW ws 2,⟨#[]⟩,num7 (atW ws 3)⟩
 else if sEq w ⟨#[104,101,114,101]⟩ then ⟨6,atW ws 1,num7 (atW ws 2),[],⟨#[]⟩,⟨#[]⟩,0⟩
 else ⟨0,atW ws 1,0,[],⟨#[]⟩,⟨#[]⟩,0⟩
def readS(s:T):Parcel:=readWords (atW (cutT (atW (cutT s 10) 0) 32) 0) (cutT (atW (cutT s 10) 0) 32) (cutT s 10).tail
def noParcel:Parcel:=⟨0,⟨#[]⟩,0,[],⟨#[]⟩,⟨#[]⟩,0⟩
def readT(s:T):Parcel×Bool:=if sEq s ⟨#[]⟩ || !(sEq (parcelForm (readS s)) s) then (noParcel,false) else (readS s,true)
def Held(h:Nat->Option AO)(b:Nat)(ws:List Want)(W:AV):Prop:=(W=.sl .own 7 []/\ws=[])\/∃ c,W=.ref c/\c≠b/\c≠0/\h c=some (.arr 7 (ws.map Want.c))
theorem Zh1(s:T)(p:Parcel)(hs:p.small)(st:St)(n b:Nat)(W:AV)(s0:st.slots 0=.str s)(s2:st.slots 2=.ptr 0 0 0)(s6:st.slots 6=.ptr b 0 0)
  (h0:st.heap 0=some (.box (noParcel.c .own))) (hb:st.heap b=some (.box [.int .i64 p.kind,.str p.berth,.int .i64 p.seen,W,.str p.hold,.str p.copy,.int .i64 p.at_])) (hW:Held st.heap b p.wants W) (hn:st.next=n+1) (hz:st.base=0) (r:Parcel×Bool)
  (hr:r=if sEq s ⟨#[]⟩ || !(sEq (parcelForm p) s) then (noParcel,false) else (p,true)) :
  fin [.cell 2 7 true,.tmp 3] 0 (X F [.code tl235] (.normal,st))=some (.tup [.agg (r.1.c .own),.bool r.2],[]):=by
 have a:=law236 p hs
 simp only[Parcel.c]at a
 simp only[Parcel.c,noParcel,Xt]at h0
 subst hr
 rcases hW with ⟨rfl,hw⟩|⟨c,rfl,c1,c2,hc⟩
 ·rw[hw]at a
  simp only[Xt]at a
  cases k:sEq s ⟨#[]⟩
  ·cases q:sEq (parcelForm p) s
   ·simp[tl235,s0,s2,s6,h0,hb,hn,hz,a,k,q,noParcel,Parcel.c]
   ·simp[tl235,s0,s2,s6,h0,hb,hn,hz,a,k,q,Parcel.c,hw]
  ·simp[tl235,s0,s2,s6,h0,hb,hn,hz,k,noParcel,Parcel.c]
 ·cases k:sEq s ⟨#[]⟩
  ·cases q:sEq (parcelForm p) s
   ·simp[tl235,s0,s2,s6,h0,hb,hn,hz,a,hc,c1,c2,k,q,noParcel,Parcel.c]
   ·simp[tl235,s0,s2,s6,h0,hb,hn,hz,a,hc,c1,c2,k,q,Parcel.c]
  ·simp[tl235,s0,s2,s6,h0,hb,hn,hz,hc,c1,c2,k,noParcel,Parcel.c]
theorem Zjf(b:UInt8):∀ l pre:List UInt8,(cutA b pre l).length<=l.length+1
 | [],pre=>by simp[cutA]
 | a::l,pre=>by
  rw[cutA]
  split
  ·have:=Zjf b l [];simp only[Xaa];omega
  ·have:=Zjf b l (pre++[a]);simp only[Xaa];omega
theorem Zmy(s:T)(b:UInt8):(cutT s b).length<=s.size+1:=by
 have:=Zjf b s.data.toList []
 rw[Zal]at this
 simpa [cutT] using this
theorem Zjg(b:UInt8):∀ l pre x:List UInt8,x∈cutA b pre l->x.length<=pre.length+l.length
 | [],pre,x,h=>by simp[cutA]at h;subst h;simp
 | a::l,pre,x,h=>by
  rw[cutA]at h
  split at h
  ·rcases Xl.1 h with h|h
   ·subst h;omega
   ·have:=Zjg b l [] x h;simp only[Xaa,Xb7]at *;omega
  ·have:=Zjg b l (pre++[a]) x h;simp only[Xaa,Xs,Xb7]at *;omega
theorem Zdl{s x:T}{b:UInt8}(h:x∈cutT s b):x.size<=s.size:=by
 simp only[cutT,Xap]at h
 obtain⟨l,h1,rfl⟩:=h
 have:=Zjg b _ _ _ h1
 rw[Zal]at this
 have e:(mkT l).size=l.length:=rfl
 rw[e]
 simpa using this
def readOut(s:T)(p:Parcel):Parcel×Bool:=if sEq s ⟨#[]⟩ || !(sEq (parcelForm p) s) then (noParcel,false) else (p,true)
def wantsV:List Want->AV
 | []=>.sl .own 7 []
 | _::_=>.ref 3
def wantsH:List Want->List AO
 | []=>[]
 | w::ws=>[.arr 7 ((w::ws).map Want.c)]
def head235(s:T)(ls:List T)(b:T)(n:Int)(j:Nat)(acc:List Want):St:=hd [(0,.str s),(2,.ptr 0 0 0),(4,.ref 1),(6,.ptr 2 0 0),(7,.int .i64 ((j:Int)+1))]
 ([.box [.int .i64 0,.str ⟨#[]⟩,.int .i64 0,.sl .own 7 [],.str ⟨#[]⟩,.str ⟨#[]⟩,.int .i64 0],.arr 1 (ls.map fun x=>[.str x]),.box [.int .i64 1,.str b,.int .i64 n,wantsV acc,.str ⟨#[]⟩,.str ⟨#[]⟩,.int .i64 0]]++wantsH acc) 0
theorem Zsg(s l0:T)(ls:List T)(b:T)(n:Int)(hs:s.size<=1048576)(hl:cutT s 10=l0::ls)(st:St)(hst:st.norm [0,2,4,6,7]=head235 s (l0::ls) b n 0 []) :
  fin [.cell 2 7 true,.tmp 3] 0 (X F [.code (.loop [0,2,4,6,7] c235b0),.blk 1,.blk 0,.code tl235] (.normal,st))=some (.tup [.agg ((readOut s ⟨1,b,n,readLines ls,⟨#[]⟩,⟨#[]⟩,0⟩).1.c .own),.bool (readOut s ⟨1,b,n,readLines ls,⟨#[]⟩,⟨#[]⟩,0⟩).2],[]):=by
 have hlen:=Zmy s 10
 rw[hl,Xaa]at hlen
 refine (Zaa ls.dropLast (fun j acc=>head235 s (l0::ls) b n j acc) (fun j (acc:List Want)=>acc.length<=j) (fun j r acc=>(.tup [.agg ((readOut s ⟨1,b,n,acc++r.map (fun l=>readWant (cutT l 32)),⟨#[]⟩,⟨#[]⟩,0⟩).1.c .own),.bool (readOut s ⟨1,b,n,acc++r.map (fun l=>readWant (cutT l 32)),⟨#[]⟩,⟨#[]⟩,0⟩).2],[])) (fun acc Y hinv=>?_) (fun j l r acc Y ha hj hr hinv hY=>?_) [] hst (Xo _) ?_).trans ?_
 ·rw[List.length_dropLast]at hinv ⊢
  have w1:IntKind.i64.wrap (((ls.length-1:Nat):Int)+1+1)=((ls.length-1:Nat):Int)+1+1:=i64w (by omega) (by omega)
  have h1:¬ ((ls.length-1:Nat):Int)+1+1<(ls.length:Int)+1:=by omega
  have ht:=Zh1 s ⟨1,b,n,acc,⟨#[]⟩,⟨#[]⟩,0⟩ ⟨by show acc.length<=_;omega⟩
  cases acc with
  | nil =>
   simp[head235,c235b0,w1,h1,wantsV,wantsH]
   exact ht _ _ 2 (.sl .own 7 []) (by simp) (by simp) (by simp) (by simp[noParcel,Parcel.c]) (by simp) (.inl ⟨rfl,rfl⟩) (by simp;rfl) rfl _ rfl
  | cons a acc =>
   simp[head235,c235b0,w1,h1,wantsV,wantsH]
   exact ht _ _ 2 (.ref 3) (by simp) (by simp) (by simp) (by simp[noParcel,Parcel.c]) (by simp) (.inr ⟨3,rfl,by simp,by simp,by simp⟩) (by simp;rfl) rfl _ rfl
 ·rw[List.length_dropLast]at hj
  have w1:IntKind.i64.wrap ((j:Int)+1+1)=(j:Int)+1+1:=i64w (by omega) (by omega)
  have h1:(j:Int)+1+1<(ls.length:Int)+1:=by omega
  have h2:j<ls.length:=by omega
  have h3:(0:Int)<=(j:Int)+1:=by omega
  have h4:(acc.length+1)*72<=140737488355328:=by omega
  have h5:acc.length+1<=140737488355328:=by omega
  have hlj:ls[j]?=some l:=by
   rw[List.dropLast_eq_take,Xal,Xr hj]at ha
   exact ha
  obtain⟨_,hg⟩:=Xa.1 hlj
  have hmem:l∈cutT s 10:=by rw[hl];exact Xh _ (Xe hlj)
  have hsl:=Zdl hmem
  obtain⟨v,vr,hv⟩:=Zfc l 32
  have a2:=law194 l 32 32 rfl (by omega)
  rw[hv]at a2
  simp only[Xx]at a2
  have at1:F 239 [.sl .bor 1 ([.str v]::vr.map fun x=>[.str x]),.int .i64 1] []=some (.str (atW (v::vr) 1),[]):=law239 (v::vr) 1
  have at2:F 239 [.sl .bor 1 ([.str v]::vr.map fun x=>[.str x]),.int .i64 2] []=some (.str (atW (v::vr) 2),[]):=law239 (v::vr) 2
  have at3:F 239 [.sl .bor 1 ([.str v]::vr.map fun x=>[.str x]),.int .i64 3] []=some (.str (atW (v::vr) 3),[]):=law239 (v::vr) 3
  have at4:F 239 [.sl .bor 1 ([.str v]::vr.map fun x=>[.str x]),.int .i64 4] []=some (.str (atW (v::vr) 4),[]):=law239 (v::vr) 4
  have at5:F 239 [.sl .bor 1 ([.str v]::vr.map fun x=>[.str x]),.int .i64 5] []=some (.str (atW (v::vr) 5),[]):=law239 (v::vr) 5
  have at6:F 239 [.sl .bor 1 ([.str v]::vr.map fun x=>[.str x]),.int .i64 6] []=some (.str (atW (v::vr) 6),[]):=law239 (v::vr) 6
  have at7:F 239 [.sl .bor 1 ([.str v]::vr.map fun x=>[.str x]),.int .i64 7] []=some (.str (atW (v::vr) 7),[]):=law239 (v::vr) 7
  have hY':=fun s' h=>hY (acc++[readWant (cutT l 32)]) s' (by simp only[Xs,Xbm];omega) h
  rw[hv]at hY'
  have p1:∀ (a:T) (b:Int) (c:T) (d e f g:Int),rowsPlain [[AV.str a,.int .i64 b,.str c,.int .i64 d,.int .i64 e,.int .i64 f,.int .i64 g]]=true:=fun _ _ _ _ _ _ _=>rfl
  cases q:sEq (atW (v::vr) 3) ⟨#[42]⟩
  ·cases acc with
   | nil =>
    simp[head235,c235b0,w1,h1,h2,h3,hg,a2,at1,at2,at3,at4,at5,at6,at7,law226,q,takeRows,p1,wantsV,wantsH]
    rw[hY' _ (by simp[head235,w1,readWant,unstar,q,wantsV,wantsH])]
    simp[readWant,unstar,hv,q]
   | cons a acc =>
    simp only[Xaa]at h4 h5
    simp[head235,c235b0,w1,h1,h2,h3,h4,h5,hg,a2,at1,at2,at3,at4,at5,at6,at7,law226,q,takeRows,p1,wantsV,wantsH]
    rw[hY' _ (by simp[head235,w1,readWant,unstar,q,wantsV,wantsH])]
    simp[readWant,unstar,hv,q]
  ·cases acc with
   | nil =>
    simp[head235,c235b0,w1,h1,h2,h3,hg,a2,at1,at2,at3,at4,at5,at6,at7,law226,q,takeRows,p1,wantsV,wantsH]
    rw[hY' _ (by simp[head235,w1,readWant,unstar,q,wantsV,wantsH])]
    simp[readWant,unstar,hv,q]
   | cons a acc =>
    simp only[Xaa]at h4 h5
    simp[head235,c235b0,w1,h1,h2,h3,h4,h5,hg,a2,at1,at2,at3,at4,at5,at6,at7,law226,q,takeRows,p1,wantsV,wantsH]
    rw[hY' _ (by simp[head235,w1,readWant,unstar,q,wantsV,wantsH])]
    simp[readWant,unstar,hv,q]
 ·rw[List.length_dropLast];unfold big;omega
 ·simp[readLines]
theorem law235(s:T)(hs:s.size<=1048576):F 235 [.str s] []=some (.tup [.agg ((readT s).1.c .own),.bool (readT s).2],[]):=by
 refine Zae fn235 rfl ?_
 obtain⟨l0,ls,hl⟩:=Zfc s 10
 obtain⟨w,wr,hw⟩:=Zfc l0 32
 have h0:atW (cutT s 10) 0=l0:=by rw[hl];rfl
 have h1:atW (cutT l0 32) 0=w:=by rw[hw];rfl
 have a1:=law194 s 10 10 rfl hs
 have a2:=law194 l0 32 32 rfl (Xac (Zdl (by rw[hl];exact Xi)) hs)
 rw[hl]at a1
 rw[hw]at a2
 have at1:F 239 [.sl .bor 1 ([.str w]::wr.map fun x=>[.str x]),.int .i64 1] []=some (.str (atW (w::wr) 1),[]):=law239 (w::wr) 1
 have at2:F 239 [.sl .bor 1 ([.str w]::wr.map fun x=>[.str x]),.int .i64 2] []=some (.str (atW (w::wr) 2),[]):=law239 (w::wr) 2
 have at3:F 239 [.sl .bor 1 ([.str w]::wr.map fun x=>[.str x]),.int .i64 3] []=some (.str (atW (w::wr) 3),[]):=law239 (w::wr) 3
 have at4:F 239 [.sl .bor 1 ([.str w]::wr.map fun x=>[.str x]),.int .i64 4] []=some (.str (atW (w::wr) 4),[]):=law239 (w::wr) 4
 have hR:readT s=readOut s (readWords w (w::wr) ls):=by simp only[readT,readOut,readS,h0,h1];simp only[hl,hw,List.tail_cons]
 obtain⟨R,hR2⟩:∃ R,R=readT s:=⟨_,rfl⟩
 rw[<- hR2]
 rw[hR]at hR2
 clear hR
 cases k1:sEq w ⟨#[116,111,108,100]⟩
 ·have hA:sEq w ⟨#[97,115,107,101,100]⟩=false->sEq w ⟨#[103,105,118,101,110]⟩=false->sEq w ⟨#[98,97,99,107]⟩=false->isAsk w=false:=fun a b c=>by simp[isAsk,a,b,c]
  have hB:(sEq w ⟨#[97,115,107,101,100]⟩=true\/sEq w ⟨#[103,105,118,101,110]⟩=true\/sEq w ⟨#[98,97,99,107]⟩=true)->isAsk w=true:=fun a=>by simp[isAsk,a]
  cases k2:sEq w ⟨#[97,115,107,101,100]⟩<;>cases k3:sEq w ⟨#[103,105,118,101,110]⟩<;>cases k4:sEq w ⟨#[98,97,99,107]⟩
  ·have hk:=hA k2 k3 k4
   cases k5:sEq w ⟨#[103,111,116,98,97,99,107]⟩
   ·cases k6:sEq w ⟨#[104,101,114,101]⟩
    ·simp[c235_cut,a1,a2,at1,at2,at3,at4,law226,k1,k2,k3,k4,k5,k6]
     exact Zh1 s ⟨0,atW (w::wr) 1,0,[],⟨#[]⟩,⟨#[]⟩,0⟩ ⟨Xp _⟩ _ _ 832 _ (by simp) (by simp) (by simp) (by simp[noParcel,Parcel.c]) (by simp) (.inl ⟨rfl,rfl⟩) (by simp;rfl) rfl R (by rw[hR2];simp[readOut,readWords,k1,hk,k5,k6])
    ·simp[c235_cut,a1,a2,at1,at2,at3,at4,law226,k1,k2,k3,k4,k5,k6]
     exact Zh1 s ⟨6,atW (w::wr) 1,num7 (atW (w::wr) 2),[],⟨#[]⟩,⟨#[]⟩,0⟩ ⟨Xp _⟩ _ _ 832 _ (by simp) (by simp) (by simp) (by simp[noParcel,Parcel.c]) (by simp) (.inl ⟨rfl,rfl⟩) (by simp;rfl) rfl R (by rw[hR2];simp[readOut,readWords,k1,hk,k5,k6])
   ·simp[c235_cut,a1,a2,at1,at2,at3,at4,law226,k1,k2,k3,k4,k5]
    exact Zh1 s ⟨5,atW (w::wr) 1,0,[],atW (w::wr) 2,⟨#[]⟩,num7 (atW (w::wr) 3)⟩ ⟨Xp _⟩ _ _ 832 _ (by simp) (by simp) (by simp) (by simp[noParcel,Parcel.c]) (by simp) (.inl ⟨rfl,rfl⟩) (by simp;rfl) rfl R (by rw[hR2];simp[readOut,readWords,k1,hk,k5])
  all_goals
   have hk:isAsk w=true:=hB (by simp[k2,k3,k4])
   simp[c235_cut,a1,a2,at1,at2,at3,at4,law226,k1,k2,k3,k4]
   exact Zh1 s ⟨readKind w,atW (w::wr) 1,0,[],atW (w::wr) 2,atW (w::wr) 3,num7 (atW (w::wr) 4)⟩ ⟨Xp _⟩ _ _ 832 (.sl .own 7 []) (by simp) (by simp) (by simp) (by simp[noParcel,Parcel.c]) (by simp[readKind,k3,k4]) (.inl ⟨rfl,rfl⟩) (by simp;rfl) rfl R (by rw[hR2];simp[readOut,readWords,k1,hk])
 ·simp[c235_cut,a1,a2,at1,at2,at3,at4,law226,k1]
  refine (Zsg s l0 ls (atW (w::wr) 1) (num7 (atW (w::wr) 2)) hs hl _ ?_).trans ?_
  ·simp[head235,wantsV,wantsH]
  ·rw[hR2]
   simp[readWords,k1]
   done
def tl207:CCode:=(.seq (jR [xf 189 7 7,xt 190 218 189,xd 191 0,u5 192 190 191] [2,7,192]
 (.cond (.tmp 192)
  (jR [⟨some 193,.build [.int .i64 0,.str ⟨#[]⟩,.int .i64 0,.sl .own 7 [],.str ⟨#[]⟩,.str ⟨#[]⟩,.int .i64 0] [],none⟩,xg 2 193 7,xm 3] [2,3]
  .ret)
  .skip))
 (jR [xf 194 7 7,xg 2 194 7,yh 3] [2,3]
 .ret))
theorem c207_cut:c207=⟨195,[.cell 2 7 true,.tmp 3],
 (jR [⟨some 2,.alloc [.int .i64 0,.str ⟨#[]⟩,.int .i64 0,.sl .own 7 [],.str ⟨#[]⟩,.str ⟨#[]⟩,.int .i64 0],none⟩,xm 3] [0,2]
 (.seq (jR [xd 12 0,⟨some 13,.call 222 [false,false] [.tmp 12,.const (.str ⟨#[10]⟩)],none⟩,yb 14 13] [0,2,14]
 (.cond (.tmp 14)
  (jR [⟨some 15,.build [.int .i64 0,.str ⟨#[]⟩,.int .i64 0,.sl .own 7 [],.str ⟨#[]⟩,.str ⟨#[]⟩,.int .i64 0] [],none⟩,xg 2 15 7,xm 3] [2,3]
  .ret)
  .skip))
 (jR [xd 16 0,xd 17 0,⟨some 18,.len true (.tmp 17),none⟩,qn 19 18 1,⟨some 20,.sslice (.tmp 16) none (some (.tmp 19)),none⟩,⟨some 21,.call 220 [false,false] [.tmp 20,.const (.str ⟨#[10]⟩)],none⟩,xd 4 21] [0,2,4]
 (jR [xd 22 4,yl 23 1 22 0,xc 24 23,wh 25 220 24,xd 5 25] [0,2,4,5]
 (jR [⟨some 6,.mov (.const (.fn 221)),none⟩] [0,2,4,5,6]
 (jR [⟨some 7,.alloc [.int .i64 0,.str ⟨#[]⟩,.int .i64 0,.sl .own 7 [],.str ⟨#[]⟩,.str ⟨#[]⟩,.int .i64 0],none⟩] [0,2,4,5,6,7]
 (.seq (.block 0
  (jR [xd 27 5,yl 28 1 27 0,xc 29 28,⟨some 30,.bin .eql (.tmp 29) (.const (.str ⟨#[116,111,108,100]⟩)),none⟩,xd 31 30,x7 32 5 31,ua 33 32 31,wj 34 33 3 31,xl 35 31 34,xd 26 35] [0,2,4,5,6,7,26]
  (.cond (.tmp 26)
   (.seq (.loud [xd 36 5,yl 37 1 36 1,xc 38 37,xd 39 6,xd 40 5,yl 41 1 40 2,xc 42 41,qe 43 39 42,uy 44 1 38 2 43,xg 7 44 7] [0,1,3,0,0,16,48,120,255,511] [0,2,4,6,7])
   (jR [xd 45 4,⟨some 46,.slice 1 (.tmp 45) (some (.const (.int .i64 1))) none,none⟩,xv 47 46,x8 48] [0,2,6,7,46,47,48]
   (.block 1
    (.loop [0,2,6,7,46,47,48] c207b0))))
   (jR [xd 106 5,xv 107 106,xw 108 107 5,xd 109 108,x7 110 5 109,⟨some 111,.iaddr 1 (.tmp 110) (.const (.int .i64 0)),some (109,true)⟩,xh 112 111 109,⟨some 113,.bin .eql (.tmp 112) (.const (.str ⟨#[97,115,107,101,100]⟩)),some (109,true)⟩,x7 114 113 109,ya 115 5 114,⟨some 116,.iaddr 1 (.tmp 115) (.const (.int .i64 0)),some (114,false)⟩,xk 117 116 114,⟨some 118,.bin .eql (.tmp 117) (.const (.str ⟨#[103,105,118,101,110]⟩)),some (114,false)⟩,ur 119 114 118 109,x7 120 119 109,ya 121 5 120,⟨some 122,.iaddr 1 (.tmp 121) (.const (.int .i64 0)),some (120,false)⟩,xk 123 122 120,⟨some 124,.bin .eql (.tmp 123) (.const (.str ⟨#[98,97,99,107]⟩)),some (120,false)⟩,ur 125 120 124 109,xl 126 109 125,xd 105 126] [0,2,5,6,7,105]
   (.cond (.tmp 105)
    (.loud [⟨some 127,.mkmap false,none⟩,⟨none,.mapset false (.tmp 127) (.const (.str ⟨#[97,115,107,101,100]⟩)) (.const (.int .i64 2)),none⟩,⟨none,.mapset false (.tmp 127) (.const (.str ⟨#[103,105,118,101,110]⟩)) (.const (.int .i64 3)),none⟩,⟨none,.mapset false (.tmp 127) (.const (.str ⟨#[98,97,99,107]⟩)) (.const (.int .i64 4)),none⟩,xd 128 127,xd 129 5,yl 130 1 129 0,xc 131 130,⟨some 132,.lookup false (.int .i64 0) (.tmp 128) (.tmp 131),none⟩,xd 133 5,yl 134 1 133 1,xc 135 134,xd 136 5,yl 137 1 136 2,xc 138 137,xd 139 5,yl 140 1 139 3,xc 141 140,xd 142 6,xd 143 5,yl 144 1 143 4,xc 145 144,qe 146 142 145,⟨some 147,.build [.int .i64 0,.str ⟨#[]⟩,.int .i64 0,.sl .own 7 [],.str ⟨#[]⟩,.str ⟨#[]⟩,.int .i64 0] [(0,1,.tmp 132),(1,1,.tmp 135),(4,1,.tmp 138),(5,1,.tmp 141),(6,1,.tmp 146)],none⟩,xg 7 147 7] [0,1,1,1,15,0,32,96,255,0,512,1536,0,4096,12288,0,32768,98304,0,0,524288,1572864,3932160,8388607,16777215] [0,2,7])
    (jR [xd 149 5,yl 150 1 149 0,xc 151 150,⟨some 152,.bin .eql (.tmp 151) (.const (.str ⟨#[103,111,116,98,97,99,107]⟩)),none⟩,xd 153 152,x7 154 5 153,ua 155 154 153,wj 156 155 4 153,xl 157 153 156,xd 148 157] [0,2,5,6,7,148]
    (.cond (.tmp 148)
     (.loud [xd 158 5,yl 159 1 158 1,xc 160 159,xd 161 5,yl 162 1 161 2,xc 163 162,xd 164 6,xd 165 5,yl 166 1 165 3,xc 167 166,qe 168 164 167,qu 169 5 160 4 163 6 168,xg 7 169 7] [0,1,3,0,8,24,0,0,128,384,960,2047,4095] [0,2,7])
     (jR [xd 171 5,yl 172 1 171 0,xc 173 172,⟨some 174,.bin .eql (.tmp 173) (.const (.str ⟨#[104,101,114,101]⟩)),none⟩,xd 175 174,x7 176 5 175,ua 177 176 175,wj 178 177 3 175,xl 179 175 178,xd 170 179] [0,2,5,6,7,170]
     (.cond (.tmp 170)
      (.loud [xd 180 5,yl 181 1 180 1,xc 182 181,xd 183 6,xd 184 5,yl 185 1 184 2,xc 186 185,qe 187 183 186,uy 188 6 182 2 187,xg 7 188 7] [0,1,3,0,0,16,48,120,255,511] [0,2,7])
      .skip)))))))))
 tl207)))))))⟩:=rfl
theorem Zfi(x b:UInt8)(r:List UInt8):Lib.index (x::r) [b]=if x=b then 0 else if Lib.index r [b] = -1 then -1 else Lib.index r [b]+1:=by
 rw[Lib.index]
 have e:[b].isPrefixOf (x::r)=(b == x):=by rw[List.isPrefixOf_cons_cons];rw[List.isPrefixOf_nil_left,Bool.and_true]
 rw[e]
 by_cases h:x=b
 ·rw[Xr (Xan.2 h.symm),Xr h]
 ·rw[Xu (fun k=>h (Xan.1 k).symm),Xu h]
  by_cases k:Lib.index r [b] = -1
  ·rw[Xr (Xan.2 k),Xr k]
  ·rw[Xu (fun q=>k (Xan.1 q)),Xu k]
theorem Zf6{b x:UInt8}{r:List UInt8}(h:¬ b∈x::r):¬ x=b/\¬ b∈r:=⟨fun e=>h (by rw[e];exact Xi),fun k=>h (Xh _ k)⟩
theorem Zm5{b:UInt8}:∀ {l:List UInt8},¬ b∈l->Lib.index l [b] = -1
 | [],_=>rfl
 | x::r,h=>by
  rw[Zfi,Xu (Zf6 h).1,Zm5 (Zf6 h).2]
  rfl
theorem Zm4{b:UInt8}:∀ {u v:List UInt8},¬ b∈u->Lib.index (u++b::v) [b]=u.length
 | [],v,_=>by rw[Xa8,Zfi,Xr rfl];rfl
 | x::u,v,h=>by
  rw[Xa1,Zfi,Xu (Zf6 h).1,Zm4 (Zf6 h).2,Xu (by omega)]
  rfl
theorem Zjh{b:UInt8}:∀ {l:List UInt8} (pre:List UInt8),¬ b∈l->cutA b pre l=[pre++l]
 | [],pre,_=>by simp[cutA]
 | x::r,pre,h=>by
  rw[cutA,Xu (Zf6 h).1,Zjh _ (Zf6 h).2]
  simp
theorem Zgw{b:UInt8}:∀ {u v:List UInt8} (pre:List UInt8),¬ b∈u->cutA b pre (u++b::v)=(pre++u)::cutA b [] v
 | [],v,pre,_=>by simp[cutA]
 | x::u,v,pre,h=>by
  rw[Xa1,cutA,Xu (Zf6 h).1,Zgw _ (Zf6 h).2]
  simp
theorem Zi9(b:UInt8):∀ (n:Nat) (l:List UInt8),l.length<=n->Lib.splitK [b] 0 (Lib.count l [b]) l=cutA b [] l
 | n,l,hn=>by
  by_cases h:b∈l
  ·obtain⟨u,v,rfl,hu⟩:=List.eq_append_cons_of_mem h
   match n with
   | 0=>simp at hn
   | n+1 =>
    have hi:=Zm4 (v:=v) hu
    have hd:(u++b::v).drop (u.length+[b].length)=v:=by
     rw[show u++b::v=(u++[b])++v by simp,List.drop_left' (by simp)]
    have hc:=Lib.count_hit (by simp) hi
    rw[hd]at hc
    rw[hc,Nat.add_comm,Lib.splitK,hi,Xu (by simp),Zgw _ hu]
    rw[show ((u.length:Int).toNat+[b].length)=u.length+[b].length from rfl,hd,Zi9 b n v (by simp at hn;omega)]
    simp
  ·rw[Lib.count_miss (Zm5 h),Zjh _ h]
   rfl
theorem Zom(s:T)(b:UInt8):splitT s ⟨#[b]⟩=cutT s b:=by
 have h:=Lib.splitB_data ⟨#[b]⟩ 0 (Lib.countB s ⟨#[b]⟩) s
 have h2:=Zi9 b _ s.data.toList (Xo _)
 have h3:(splitT s ⟨#[b]⟩).map (·.data.toList)=cutA b [] s.data.toList:=h.trans h2
 rw[cutT,<- h3,List.map_map]
 have e:(mkT ∘ fun x:ByteArray=>x.data.toList)=id:=by
  funext x
  rfl
 rw[e,List.map_id]
def wantI(x:List T):Want:=⟨atW x 1,numT (atW x 2),unstar (atW x 3),numT (atW x 4),numT (atW x 5),numT (atW x 6),numT (atW x 7)⟩
def lineOk(x:List T):Bool:=x.length == 8 && sEq (atW x 0) ⟨#[119,97,110,116]⟩
def linesI(acc:List Want):List T->Option (List Want)
 | []=>some acc
 | l::r=>if lineOk (cutT l 32) then linesI (acc++[wantI (cutT l 32)]) r else none
def wordsI(w:T)(ws ls:List T):Option Parcel :=
 if sEq w ⟨#[116,111,108,100]⟩ && ws.length == 3 then (match linesI [] ls with
  | some wants=>some ⟨1,atW ws 1,numT (atW ws 2),wants,⟨#[]⟩,⟨#[]⟩,0⟩
  | none=>none)
 else if ws.length == 5 && isAsk w then some ⟨readKind w,atW ws 1,0,[],atW ws 2,atW ws 3,numT (atW ws 4)⟩
 else if sEq w ⟨#[103,111,116,98,97,99,107]⟩ && ws.length == 4 then some ⟨5,atW ws 1,0,[],atW ws 2,⟨#[]⟩,numT (atW ws 3)⟩
 else if sEq w ⟨#[104,101,114,101]⟩ && ws.length == 3 then some ⟨6,atW ws 1,numT (atW ws 2),[],⟨#[]⟩,⟨#[]⟩,0⟩
 else some noParcel
def outI(s:T):Option Parcel->Parcel×Bool
 | some p=>if sEq (parcelForm p) s then (p,true) else (noParcel,false)
 | none=>(noParcel,false)
def readI(s:T):Parcel×Bool :=
 if Lib.hasSuffix s.data.toList [10] then outI s (wordsI (atW (cutT (atW (cutT (s.extract 0 (s.size-1)) 10) 0) 32) 0) (cutT (atW (cutT (s.extract 0 (s.size-1)) 10) 0) 32) (cutT (s.extract 0 (s.size-1)) 10).tail) else (noParcel,false)
theorem Zah(s:T)(p:Parcel)(hs:p.small)(st:St)(n b:Nat)(W:AV)(s0:st.slots 0=.str s)(s2:st.slots 2=.ptr 0 0 0)(s7:st.slots 7=.ptr b 0 0)
  (h0:st.heap 0=some (.box (noParcel.c .own))) (hb:st.heap b=some (.box [.int .i64 p.kind,.str p.berth,.int .i64 p.seen,W,.str p.hold,.str p.copy,.int .i64 p.at_])) (hW:Held st.heap b p.wants W) (hn:st.next=n+1) (hz:st.base=0) (r:Parcel×Bool)
  (hr:r=outI s (some p)) :
  fin [.cell 2 7 true,.tmp 3] 0 (X F [.code tl207] (.normal,st))=some (.tup [.agg (r.1.c .own),.bool r.2],[]):=by
 have a:=law218 p hs
 simp only[Parcel.c]at a
 simp only[Parcel.c,noParcel,Xt]at h0
 subst hr
 unfold outI
 rcases hW with ⟨rfl,hw⟩|⟨c,rfl,c1,c2,hc⟩
 ·rw[hw]at a
  simp only[Xt]at a
  cases q:sEq (parcelForm p) s
  ·simp[tl207,s0,s2,s7,h0,hb,hn,hz,a,q,noParcel,Parcel.c]
  ·simp[tl207,s0,s2,s7,h0,hb,hn,hz,a,q,Parcel.c,hw]
 ·cases q:sEq (parcelForm p) s
  ·simp[tl207,s0,s2,s7,h0,hb,hn,hz,a,hc,c1,c2,q,noParcel,Parcel.c]
  ·simp[tl207,s0,s2,s7,h0,hb,hn,hz,a,hc,c1,c2,q,Parcel.c]
theorem law220c(s:T)(b:UInt8)(hs:s.size<=1048576):F 220 [.str s,.str ⟨#[b]⟩] []=some (.sl .own 1 ((cutT s b).map fun x=>[.str x]),[]):=by
 rw[law220 s ⟨#[b]⟩ (by omega) (by show 1<=1;omega),Zom]
def partI(b:T)(n:Int)(ws:List Want):Parcel:=⟨1,b,n,ws,⟨#[]⟩,⟨#[]⟩,0⟩
def resR(r:Parcel×Bool):AV×List (Option AO):=(.tup [.agg (r.1.c .own),.bool r.2],[])
def head207(s l0:T)(ls:List T)(b:T)(n:Int)(j:Nat)(acc:List Want):St:=hd [(0,.str s),(2,.ptr 0 0 0),(6,.fn 221),(7,.ptr 1 0 0),(46,.view 2 1 ls.length),(47,.int .i64 ls.length),(48,.int .i64 j)]
 ([.box [.int .i64 0,.str ⟨#[]⟩,.int .i64 0,.sl .own 7 [],.str ⟨#[]⟩,.str ⟨#[]⟩,.int .i64 0],.box [.int .i64 1,.str b,.int .i64 n,wantsV acc,.str ⟨#[]⟩,.str ⟨#[]⟩,.int .i64 0],.arr 1 ((l0::ls).map fun x=>[.str x])]++wantsH acc) 0
theorem Zsf(s l0:T)(ls:List T)(b:T)(n:Int)(hls:∀ x∈ls,x.size<=1048576)(hlen:ls.length<=1048576)(st:St)(hst:st.norm [0,2,6,7,46,47,48]=head207 s l0 ls b n 0 []) :
  fin [.cell 2 7 true,.tmp 3] 0 (X F [.code (.loop [0,2,6,7,46,47,48] c207b0),.blk 1,.blk 0,.code tl207] (.normal,st))=some (resR (outI s ((linesI [] ls).map (partI b n)))):=by
 refine (Zaa ls (fun j acc=>head207 s l0 ls b n j acc) (fun j (acc:List Want)=>acc.length<=j) (fun j r acc=>resR (outI s ((linesI acc r).map (partI b n)))) (fun acc Y hinv=>?_) (fun j l r acc Y ha hj hr hinv hY=>?_) [] hst (Xo _) ?_).trans rfl
 ·have ht:=Zah s (partI b n acc) ⟨by show acc.length<=_;omega⟩
  simp only[linesI,Xw]
  cases acc with
  | nil =>
   simp[head207,c207b0,wantsV,wantsH]
   exact ht _ _ 1 (.sl .own 7 []) (by simp) (by simp) (by simp) (by simp[noParcel,Parcel.c]) (by simp[partI]) (.inl ⟨rfl,rfl⟩) (by simp;rfl) rfl _ rfl
  | cons a acc =>
   simp[head207,c207b0,wantsV,wantsH]
   exact ht _ _ 1 (.ref 3) (by simp) (by simp) (by simp) (by simp[noParcel,Parcel.c]) (by simp[partI]) (.inr ⟨3,rfl,by simp,by simp,by simp[partI]⟩) (by simp;rfl) rfl _ rfl
 ·have w1:IntKind.i64.wrap ((j:Int)+1)=(j:Int)+1:=i64w (by omega) (by omega)
  have h1:(j:Int)<ls.length:=by omega
  have h4:(acc.length+1)*72<=140737488355328:=by omega
  have h5:acc.length+1<=140737488355328:=by omega
  obtain⟨_,hg⟩:=Xa.1 ha
  have hsl:=hls l (Xe ha)
  obtain⟨v,vr,hv⟩:=Zfc l 32
  have a2:=law220c l 32 hsl
  rw[hv]at a2
  have hvs:∀ x∈v::vr,x.size<=281474976710656:=fun x hx=>by
   have:=Zdl (s:=l) (b:=32) (x:=x) (by rw[hv];exact hx)
   omega
  simp only[Xx]at a2
  have h6:1+ls.length<=ls.length+1:=by omega
  have h7:1+j=j+1:=Nat.add_comm _ _
  by_cases q8:vr.length=7
  ·obtain⟨y1,y2,y3,y4,y5,y6,y7,rfl⟩:∃ y1 y2 y3 y4 y5 y6 y7,vr=[y1,y2,y3,y4,y5,y6,y7]:=by
    match vr,q8 with
    | [y1,y2,y3,y4,y5,y6,y7],_=>exact⟨y1,y2,y3,y4,y5,y6,y7,rfl⟩
   have n2:=law221 y2 (hvs y2 (by simp))
   have n4:=law221 y4 (hvs y4 (by simp))
   have n5:=law221 y5 (hvs y5 (by simp))
   have n6:=law221 y6 (hvs y6 (by simp))
   have n7:=law221 y7 (hvs y7 (by simp))
   have p1:∀ (a:T) (b:Int) (c:T) (d e f g:Int),rowsPlain [[AV.str a,.int .i64 b,.str c,.int .i64 d,.int .i64 e,.int .i64 f,.int .i64 g]]=true:=fun _ _ _ _ _ _ _=>rfl
   cases q0:sEq v ⟨#[119,97,110,116]⟩
   ·have hno:lineOk (cutT l 32)=false:=by rw[hv];simp[lineOk,atW,q0]
    rw[linesI,hno]
    cases acc with
    | nil =>
     simp[head207,c207b0,h1,hj,hg,h6,h7,a2,q0,wantsV,wantsH,outI,resR,noParcel,Parcel.c]
    | cons a acc =>
     simp[head207,c207b0,h1,hj,hg,h6,h7,a2,q0,wantsV,wantsH,outI,resR,noParcel,Parcel.c]
   ·have hyes:lineOk (cutT l 32)=true:=by rw[hv];simp[lineOk,atW,q0]
    have hY':=fun s' h=>hY (acc++[wantI (cutT l 32)]) s' (by simp only[Xs,Xbm];omega) h
    rw[linesI,hyes,Xr rfl]
    rw[hv]at hY' ⊢
    cases q:sEq y3 ⟨#[42]⟩
    ·cases acc with
     | nil =>
      simp[head207,c207b0,h1,hj,hg,h6,h7,a2,q0,q,n2,n4,n5,n6,n7,takeRows,p1,wantsV,wantsH]
      rw[hY' _ (by simp[head207,w1,wantI,atW,unstar,q,wantsV,wantsH])]
      rfl
     | cons a acc =>
      simp only[Xaa]at h4 h5
      simp[head207,c207b0,h1,hj,hg,h6,h7,a2,q0,q,n2,n4,n5,n6,n7,takeRows,p1,wantsV,wantsH,h4,h5]
      rw[hY' _ (by simp[head207,w1,wantI,atW,unstar,q,wantsV,wantsH])]
      rfl
    ·cases acc with
     | nil =>
      simp[head207,c207b0,h1,hj,hg,h6,h7,a2,q0,q,n2,n4,n5,n6,n7,takeRows,p1,wantsV,wantsH]
      rw[hY' _ (by simp[head207,w1,wantI,atW,unstar,q,wantsV,wantsH])]
      rfl
     | cons a acc =>
      simp only[Xaa]at h4 h5
      simp[head207,c207b0,h1,hj,hg,h6,h7,a2,q0,q,n2,n4,n5,n6,n7,takeRows,p1,wantsV,wantsH,h4,h5]
      rw[hY' _ (by simp[head207,w1,wantI,atW,unstar,q,wantsV,wantsH])]
      rfl
  ·have q9:¬ (vr.length:Int)+1=8:=by omega
   have hno:lineOk (cutT l 32)=false:=by rw[hv];simp[lineOk,q8]
   rw[linesI,hno]
   cases acc with
   | nil =>
    simp[head207,c207b0,h1,hj,hg,h6,h7,a2,q9,wantsV,wantsH,outI,resR,noParcel,Parcel.c]
   | cons a acc =>
    simp[head207,c207b0,h1,hj,hg,h6,h7,a2,q9,wantsV,wantsH,outI,resR,noParcel,Parcel.c]
 ·unfold big;omega
theorem Zml{l:List UInt8}(h:Lib.hasSuffix l [10]=true):1<=l.length:=by
 cases l with
 | nil=>cases h
 | cons a l=>simp
structure Words(w:T)(a:Bool)(b:Bool)(c:Bool)(d:Bool)(e:Bool)(f:Bool):Prop where
 told:sEq w ⟨#[116,111,108,100]⟩=a
 asked:sEq w ⟨#[97,115,107,101,100]⟩=b
 given:sEq w ⟨#[103,105,118,101,110]⟩=c
 back:sEq w ⟨#[98,97,99,107]⟩=d
 gotback:sEq w ⟨#[103,111,116,98,97,99,107]⟩=e
 here:sEq w ⟨#[104,101,114,101]⟩=f
theorem Zqe(w:T):Words w true false false false false false\/Words w false true false false false false\/Words w false false true false false false\/Words w false false false true false false\/Words w false false false false true false\/Words w false false false false false true\/Words w false false false false false false:=by
 by_cases h0:w=⟨#[116,111,108,100]⟩
 ·subst h0
  exact .inl ⟨(Zac _ _).2 rfl,Zad (by intro e;cases e),Zad (by intro e;cases e),Zad (by intro e;cases e),Zad (by intro e;cases e),Zad (by intro e;cases e)⟩
 by_cases h1:w=⟨#[97,115,107,101,100]⟩
 ·subst h1
  exact .inr (.inl ⟨Zad (by intro e;cases e),(Zac _ _).2 rfl,Zad (by intro e;cases e),Zad (by intro e;cases e),Zad (by intro e;cases e),Zad (by intro e;cases e)⟩)
 by_cases h2:w=⟨#[103,105,118,101,110]⟩
 ·subst h2
  exact .inr (.inr (.inl ⟨Zad (by intro e;cases e),Zad (by intro e;cases e),(Zac _ _).2 rfl,Zad (by intro e;cases e),Zad (by intro e;cases e),Zad (by intro e;cases e)⟩))
 by_cases h3:w=⟨#[98,97,99,107]⟩
 ·subst h3
  exact .inr (.inr (.inr (.inl ⟨Zad (by intro e;cases e),Zad (by intro e;cases e),Zad (by intro e;cases e),(Zac _ _).2 rfl,Zad (by intro e;cases e),Zad (by intro e;cases e)⟩)))
 by_cases h4:w=⟨#[103,111,116,98,97,99,107]⟩
 ·subst h4
  exact .inr (.inr (.inr (.inr (.inl ⟨Zad (by intro e;cases e),Zad (by intro e;cases e),Zad (by intro e;cases e),Zad (by intro e;cases e),(Zac _ _).2 rfl,Zad (by intro e;cases e)⟩))))
 by_cases h5:w=⟨#[104,101,114,101]⟩
 ·subst h5
  exact .inr (.inr (.inr (.inr (.inr (.inl ⟨Zad (by intro e;cases e),Zad (by intro e;cases e),Zad (by intro e;cases e),Zad (by intro e;cases e),Zad (by intro e;cases e),(Zac _ _).2 rfl⟩)))))
 exact .inr (.inr (.inr (.inr (.inr (.inr (⟨Zad h0,Zad h1,Zad h2,Zad h3,Zad h4,Zad h5⟩))))))
theorem m1:sEq ⟨#[103,105,118,101,110]⟩ ⟨#[97,115,107,101,100]⟩=false:=Zad (by intro e;cases e)
theorem m2:sEq ⟨#[98,97,99,107]⟩ ⟨#[97,115,107,101,100]⟩=false:=Zad (by intro e;cases e)
theorem m3:sEq ⟨#[98,97,99,107]⟩ ⟨#[103,105,118,101,110]⟩=false:=Zad (by intro e;cases e)
set_option maxHeartbeats 8000000 in
theorem law207(s:T)(hs:s.size<=1048576):F 207 [.str s] []=some (.tup [.agg ((readI s).1.c .own),.bool (readI s).2],[]):=by
 refine Zae fn207 rfl ?_
 have a0:=law222 s ⟨#[10]⟩ (by omega)
 obtain⟨t,ht⟩:∃ t,t=s.extract 0 (s.size-1):=⟨_,rfl⟩
 have hts:t.size<=1048576:=by
  rw[ht,ByteArray.size_extract];omega
 obtain⟨l0,ls,hl⟩:=Zfc t 10
 obtain⟨w,wr,hw⟩:=Zfc l0 32
 have h0:atW (cutT t 10) 0=l0:=by rw[hl];rfl
 have h1:atW (cutT l0 32) 0=w:=by rw[hw];rfl
 have a1:=law220c t 10 hts
 have hl0:l0.size<=1048576:=Xac (Zdl (by rw[hl];exact Xi)) hts
 have a2:=law220c l0 32 hl0
 have hls:∀ x∈ls,x.size<=1048576:=fun x hx=>Xac (Zdl (b:=10) (by rw[hl];exact Xh _ hx)) hts
 have hll:=Zmy t 10
 rw[hl,Xaa]at hll
 have hws:∀ x∈w::wr,x.size<=281474976710656:=fun x hx=>by
  have:=Zdl (s:=l0) (b:=32) (x:=x) (by rw[hw];exact hx)
  omega
 rw[hl]at a1
 rw[hw]at a2
 simp only[Xx]at a1 a2
 cases k0:Lib.hasSuffix s.data.toList [10]
 ·have e0:Lib.hasSuffix s.data.toList (⟨#[10]⟩:T).data.toList=false:=k0
  simp[c207_cut,a0,e0,readI,k0,noParcel,Parcel.c]
 ·have e0:Lib.hasSuffix s.data.toList (⟨#[10]⟩:T).data.toList=true:=k0
  have z0:1<=s.size:=Zml k0
  have z1:IntKind.i64.wrap ((s.size:Int)-1)=(s.size:Int)-1:=i64w (by omega) (by omega)
  have z2:(0:Int)<=(s.size:Int)-1:=by omega
  have z3:(s.size:Int)-1<=s.size:=by omega
  have z4:((s.size:Int)-1).toNat=s.size-1:=by omega
  have z5:s.extract 0 (s.size-1)=t:=ht.symm
  have z6:(1:Int)<=s.size:=by omega
  have hR:readI s=outI s (wordsI w (w::wr) ls):=by
   rw[readI,k0,Xr rfl,z5,h0,h1];simp only[hl,hw,List.tail_cons]
  obtain⟨R,hR2⟩:∃ R,R=readI s:=⟨_,rfl⟩
  rw[<- hR2]
  rw[hR]at hR2
  clear hR
  rcases Zqe w with hwd|hwd|hwd|hwd|hwd|hwd|hwd
  ·obtain⟨k1,k2,k3,k4,k5,k6⟩:=hwd
   rcases wr with _|⟨a,_|⟨b,_|⟨c,_|⟨d,_|⟨e,r⟩⟩⟩⟩⟩
   ·simp[c207_cut,a0,e0,slBounds,z1,z2,z3,z4,z5,z6,a1,a2,k1,k2,k3,k4,k5,k6]
    exact Zah s noParcel ⟨Xp _⟩ _ _ 1152 (.sl .own 7 []) (by simp) (by simp) (by simp) (by simp[noParcel,Parcel.c]) (by simp[noParcel]) (.inl ⟨rfl,rfl⟩) (by simp;rfl) rfl R (by rw[hR2];simp[wordsI,isAsk,readKind,atW,k1,k2,k3,k4,k5,k6])
   ·simp[c207_cut,a0,e0,slBounds,z1,z2,z3,z4,z5,z6,a1,a2,k1,k2,k3,k4,k5,k6]
    exact Zah s noParcel ⟨Xp _⟩ _ _ 1152 (.sl .own 7 []) (by simp) (by simp) (by simp) (by simp[noParcel,Parcel.c]) (by simp[noParcel]) (.inl ⟨rfl,rfl⟩) (by simp;rfl) rfl R (by rw[hR2];simp[wordsI,isAsk,readKind,atW,k1,k2,k3,k4,k5,k6])
   ·have nb:=law221 b (hws b (by simp))
    have z7:(1:Int)<=(ls.length:Int)+1:=by omega
    have z8:1+ls.length<=ls.length+1:=by omega
    have z9:(ls.map fun x=>[AV.str x]).take ls.length=ls.map fun x=>[AV.str x]:=Xae (by simp)
    simp[c207_cut,a0,e0,slBounds,z1,z2,z3,z4,z5,z6,a1,a2,k1,k2,k3,k4,k5,k6,nb,z7,z8,z9]
    refine (Zsf s l0 ls a (numT b) hls (by omega) _ ?_).trans ?_
    ·simp[head207,wantsV,wantsH]
    ·rw[hR2,wordsI]
     simp[k1,atW]
     cases linesI [] ls<;>rfl
   ·simp[c207_cut,a0,e0,slBounds,z1,z2,z3,z4,z5,z6,a1,a2,k1,k2,k3,k4,k5,k6]
    exact Zah s noParcel ⟨Xp _⟩ _ _ 1152 (.sl .own 7 []) (by simp) (by simp) (by simp) (by simp[noParcel,Parcel.c]) (by simp[noParcel]) (.inl ⟨rfl,rfl⟩) (by simp;rfl) rfl R (by rw[hR2];simp[wordsI,isAsk,readKind,atW,k1,k2,k3,k4,k5,k6])
   ·simp[c207_cut,a0,e0,slBounds,z1,z2,z3,z4,z5,z6,a1,a2,k1,k2,k3,k4,k5,k6]
    exact Zah s noParcel ⟨Xp _⟩ _ _ 1152 (.sl .own 7 []) (by simp) (by simp) (by simp) (by simp[noParcel,Parcel.c]) (by simp[noParcel]) (.inl ⟨rfl,rfl⟩) (by simp;rfl) rfl R (by rw[hR2];simp[wordsI,isAsk,readKind,atW,k1,k2,k3,k4,k5,k6])
   ·have q3:¬ (r.length:Int)+1+1+1+1+1+1=3:=by omega
    have q4:¬ (r.length:Int)+1+1+1+1+1+1=4:=by omega
    have q5:¬ (r.length:Int)+1+1+1+1+1+1=5:=by omega
    simp[c207_cut,a0,e0,slBounds,z1,z2,z3,z4,z5,z6,a1,a2,k1,k2,k3,k4,k5,k6,q3,q4,q5]
    exact Zah s noParcel ⟨Xp _⟩ _ _ 1152 (.sl .own 7 []) (by simp) (by simp) (by simp) (by simp[noParcel,Parcel.c]) (by simp[noParcel]) (.inl ⟨rfl,rfl⟩) (by simp;rfl) rfl R (by rw[hR2];simp[wordsI,isAsk,readKind,atW,k1,k2,k3,k4,k5,k6])
  ·obtain⟨k1,k2,k3,k4,k5,k6⟩:=hwd
   rcases wr with _|⟨a,_|⟨b,_|⟨c,_|⟨d,_|⟨e,r⟩⟩⟩⟩⟩
   ·simp[c207_cut,a0,e0,slBounds,z1,z2,z3,z4,z5,z6,a1,a2,k1,k2,k3,k4,k5,k6]
    exact Zah s noParcel ⟨Xp _⟩ _ _ 1152 (.sl .own 7 []) (by simp) (by simp) (by simp) (by simp[noParcel,Parcel.c]) (by simp[noParcel]) (.inl ⟨rfl,rfl⟩) (by simp;rfl) rfl R (by rw[hR2];simp[wordsI,isAsk,readKind,atW,k1,k2,k3,k4,k5,k6])
   ·simp[c207_cut,a0,e0,slBounds,z1,z2,z3,z4,z5,z6,a1,a2,k1,k2,k3,k4,k5,k6]
    exact Zah s noParcel ⟨Xp _⟩ _ _ 1152 (.sl .own 7 []) (by simp) (by simp) (by simp) (by simp[noParcel,Parcel.c]) (by simp[noParcel]) (.inl ⟨rfl,rfl⟩) (by simp;rfl) rfl R (by rw[hR2];simp[wordsI,isAsk,readKind,atW,k1,k2,k3,k4,k5,k6])
   ·simp[c207_cut,a0,e0,slBounds,z1,z2,z3,z4,z5,z6,a1,a2,k1,k2,k3,k4,k5,k6]
    exact Zah s noParcel ⟨Xp _⟩ _ _ 1152 (.sl .own 7 []) (by simp) (by simp) (by simp) (by simp[noParcel,Parcel.c]) (by simp[noParcel]) (.inl ⟨rfl,rfl⟩) (by simp;rfl) rfl R (by rw[hR2];simp[wordsI,isAsk,readKind,atW,k1,k2,k3,k4,k5,k6])
   ·simp[c207_cut,a0,e0,slBounds,z1,z2,z3,z4,z5,z6,a1,a2,k1,k2,k3,k4,k5,k6]
    exact Zah s noParcel ⟨Xp _⟩ _ _ 1152 (.sl .own 7 []) (by simp) (by simp) (by simp) (by simp[noParcel,Parcel.c]) (by simp[noParcel]) (.inl ⟨rfl,rfl⟩) (by simp;rfl) rfl R (by rw[hR2];simp[wordsI,isAsk,readKind,atW,k1,k2,k3,k4,k5,k6])
   ·have nb:=law221 d (hws d (by simp))
    simp[c207_cut,a0,e0,slBounds,z1,z2,z3,z4,z5,z6,a1,a2,k1,k2,k3,k4,k5,k6,nb,mapGet,mapPut,noKeys,m1,m2,m3]
    exact Zah s ⟨2,a,0,[],b,c,numT d⟩ ⟨Xp _⟩ _ _ 1152 (.sl .own 7 []) (by simp) (by simp) (by simp) (by simp[noParcel,Parcel.c]) (by simp[noParcel]) (.inl ⟨rfl,rfl⟩) (by simp;rfl) rfl R (by rw[hR2];simp[wordsI,isAsk,readKind,atW,k1,k2,k3,k4,k5,k6])
   ·have q3:¬ (r.length:Int)+1+1+1+1+1+1=3:=by omega
    have q4:¬ (r.length:Int)+1+1+1+1+1+1=4:=by omega
    have q5:¬ (r.length:Int)+1+1+1+1+1+1=5:=by omega
    simp[c207_cut,a0,e0,slBounds,z1,z2,z3,z4,z5,z6,a1,a2,k1,k2,k3,k4,k5,k6,q3,q4,q5]
    exact Zah s noParcel ⟨Xp _⟩ _ _ 1152 (.sl .own 7 []) (by simp) (by simp) (by simp) (by simp[noParcel,Parcel.c]) (by simp[noParcel]) (.inl ⟨rfl,rfl⟩) (by simp;rfl) rfl R (by rw[hR2];simp[wordsI,isAsk,readKind,atW,k1,k2,k3,k4,k5,k6])
  ·obtain⟨k1,k2,k3,k4,k5,k6⟩:=hwd
   rcases wr with _|⟨a,_|⟨b,_|⟨c,_|⟨d,_|⟨e,r⟩⟩⟩⟩⟩
   ·simp[c207_cut,a0,e0,slBounds,z1,z2,z3,z4,z5,z6,a1,a2,k1,k2,k3,k4,k5,k6]
    exact Zah s noParcel ⟨Xp _⟩ _ _ 1152 (.sl .own 7 []) (by simp) (by simp) (by simp) (by simp[noParcel,Parcel.c]) (by simp[noParcel]) (.inl ⟨rfl,rfl⟩) (by simp;rfl) rfl R (by rw[hR2];simp[wordsI,isAsk,readKind,atW,k1,k2,k3,k4,k5,k6])
   ·simp[c207_cut,a0,e0,slBounds,z1,z2,z3,z4,z5,z6,a1,a2,k1,k2,k3,k4,k5,k6]
    exact Zah s noParcel ⟨Xp _⟩ _ _ 1152 (.sl .own 7 []) (by simp) (by simp) (by simp) (by simp[noParcel,Parcel.c]) (by simp[noParcel]) (.inl ⟨rfl,rfl⟩) (by simp;rfl) rfl R (by rw[hR2];simp[wordsI,isAsk,readKind,atW,k1,k2,k3,k4,k5,k6])
   ·simp[c207_cut,a0,e0,slBounds,z1,z2,z3,z4,z5,z6,a1,a2,k1,k2,k3,k4,k5,k6]
    exact Zah s noParcel ⟨Xp _⟩ _ _ 1152 (.sl .own 7 []) (by simp) (by simp) (by simp) (by simp[noParcel,Parcel.c]) (by simp[noParcel]) (.inl ⟨rfl,rfl⟩) (by simp;rfl) rfl R (by rw[hR2];simp[wordsI,isAsk,readKind,atW,k1,k2,k3,k4,k5,k6])
   ·simp[c207_cut,a0,e0,slBounds,z1,z2,z3,z4,z5,z6,a1,a2,k1,k2,k3,k4,k5,k6]
    exact Zah s noParcel ⟨Xp _⟩ _ _ 1152 (.sl .own 7 []) (by simp) (by simp) (by simp) (by simp[noParcel,Parcel.c]) (by simp[noParcel]) (.inl ⟨rfl,rfl⟩) (by simp;rfl) rfl R (by rw[hR2];simp[wordsI,isAsk,readKind,atW,k1,k2,k3,k4,k5,k6])
   ·have nb:=law221 d (hws d (by simp))
    simp[c207_cut,a0,e0,slBounds,z1,z2,z3,z4,z5,z6,a1,a2,k1,k2,k3,k4,k5,k6,nb,mapGet,mapPut,noKeys,m1,m2,m3]
    exact Zah s ⟨3,a,0,[],b,c,numT d⟩ ⟨Xp _⟩ _ _ 1152 (.sl .own 7 []) (by simp) (by simp) (by simp) (by simp[noParcel,Parcel.c]) (by simp[noParcel]) (.inl ⟨rfl,rfl⟩) (by simp;rfl) rfl R (by rw[hR2];simp[wordsI,isAsk,readKind,atW,k1,k2,k3,k4,k5,k6])
   ·have q3:¬ (r.length:Int)+1+1+1+1+1+1=3:=by omega
    have q4:¬ (r.length:Int)+1+1+1+1+1+1=4:=by omega
    have q5:¬ (r.length:Int)+1+1+1+1+1+1=5:=by omega
    simp[c207_cut,a0,e0,slBounds,z1,z2,z3,z4,z5,z6,a1,a2,k1,k2,k3,k4,k5,k6,q3,q4,q5]
    exact Zah s noParcel ⟨Xp _⟩ _ _ 1152 (.sl .own 7 []) (by simp) (by simp) (by simp) (by simp[noParcel,Parcel.c]) (by simp[noParcel]) (.inl ⟨rfl,rfl⟩) (by simp;rfl) rfl R (by rw[hR2];simp[wordsI,isAsk,readKind,atW,k1,k2,k3,k4,k5,k6])
  ·obtain⟨k1,k2,k3,k4,k5,k6⟩:=hwd
   rcases wr with _|⟨a,_|⟨b,_|⟨c,_|⟨d,_|⟨e,r⟩⟩⟩⟩⟩
   ·simp[c207_cut,a0,e0,slBounds,z1,z2,z3,z4,z5,z6,a1,a2,k1,k2,k3,k4,k5,k6]
    exact Zah s noParcel ⟨Xp _⟩ _ _ 1152 (.sl .own 7 []) (by simp) (by simp) (by simp) (by simp[noParcel,Parcel.c]) (by simp[noParcel]) (.inl ⟨rfl,rfl⟩) (by simp;rfl) rfl R (by rw[hR2];simp[wordsI,isAsk,readKind,atW,k1,k2,k3,k4,k5,k6])
   ·simp[c207_cut,a0,e0,slBounds,z1,z2,z3,z4,z5,z6,a1,a2,k1,k2,k3,k4,k5,k6]
    exact Zah s noParcel ⟨Xp _⟩ _ _ 1152 (.sl .own 7 []) (by simp) (by simp) (by simp) (by simp[noParcel,Parcel.c]) (by simp[noParcel]) (.inl ⟨rfl,rfl⟩) (by simp;rfl) rfl R (by rw[hR2];simp[wordsI,isAsk,readKind,atW,k1,k2,k3,k4,k5,k6])
   ·simp[c207_cut,a0,e0,slBounds,z1,z2,z3,z4,z5,z6,a1,a2,k1,k2,k3,k4,k5,k6]
    exact Zah s noParcel ⟨Xp _⟩ _ _ 1152 (.sl .own 7 []) (by simp) (by simp) (by simp) (by simp[noParcel,Parcel.c]) (by simp[noParcel]) (.inl ⟨rfl,rfl⟩) (by simp;rfl) rfl R (by rw[hR2];simp[wordsI,isAsk,readKind,atW,k1,k2,k3,k4,k5,k6])
   ·simp[c207_cut,a0,e0,slBounds,z1,z2,z3,z4,z5,z6,a1,a2,k1,k2,k3,k4,k5,k6]
    exact Zah s noParcel ⟨Xp _⟩ _ _ 1152 (.sl .own 7 []) (by simp) (by simp) (by simp) (by simp[noParcel,Parcel.c]) (by simp[noParcel]) (.inl ⟨rfl,rfl⟩) (by simp;rfl) rfl R (by rw[hR2];simp[wordsI,isAsk,readKind,atW,k1,k2,k3,k4,k5,k6])
   ·have nb:=law221 d (hws d (by simp))
    simp[c207_cut,a0,e0,slBounds,z1,z2,z3,z4,z5,z6,a1,a2,k1,k2,k3,k4,k5,k6,nb,mapGet,mapPut,noKeys,m1,m2,m3]
    exact Zah s ⟨4,a,0,[],b,c,numT d⟩ ⟨Xp _⟩ _ _ 1152 (.sl .own 7 []) (by simp) (by simp) (by simp) (by simp[noParcel,Parcel.c]) (by simp[noParcel]) (.inl ⟨rfl,rfl⟩) (by simp;rfl) rfl R (by rw[hR2];simp[wordsI,isAsk,readKind,atW,k1,k2,k3,k4,k5,k6])
   ·have q3:¬ (r.length:Int)+1+1+1+1+1+1=3:=by omega
    have q4:¬ (r.length:Int)+1+1+1+1+1+1=4:=by omega
    have q5:¬ (r.length:Int)+1+1+1+1+1+1=5:=by omega
    simp[c207_cut,a0,e0,slBounds,z1,z2,z3,z4,z5,z6,a1,a2,k1,k2,k3,k4,k5,k6,q3,q4,q5]
    exact Zah s noParcel ⟨Xp _⟩ _ _ 1152 (.sl .own 7 []) (by simp) (by simp) (by simp) (by simp[noParcel,Parcel.c]) (by simp[noParcel]) (.inl ⟨rfl,rfl⟩) (by simp;rfl) rfl R (by rw[hR2];simp[wordsI,isAsk,readKind,atW,k1,k2,k3,k4,k5,k6])
  ·obtain⟨k1,k2,k3,k4,k5,k6⟩:=hwd
   rcases wr with _|⟨a,_|⟨b,_|⟨c,_|⟨d,_|⟨e,r⟩⟩⟩⟩⟩
   ·simp[c207_cut,a0,e0,slBounds,z1,z2,z3,z4,z5,z6,a1,a2,k1,k2,k3,k4,k5,k6]
    exact Zah s noParcel ⟨Xp _⟩ _ _ 1152 (.sl .own 7 []) (by simp) (by simp) (by simp) (by simp[noParcel,Parcel.c]) (by simp[noParcel]) (.inl ⟨rfl,rfl⟩) (by simp;rfl) rfl R (by rw[hR2];simp[wordsI,isAsk,readKind,atW,k1,k2,k3,k4,k5,k6])
   ·simp[c207_cut,a0,e0,slBounds,z1,z2,z3,z4,z5,z6,a1,a2,k1,k2,k3,k4,k5,k6]
    exact Zah s noParcel ⟨Xp _⟩ _ _ 1152 (.sl .own 7 []) (by simp) (by simp) (by simp) (by simp[noParcel,Parcel.c]) (by simp[noParcel]) (.inl ⟨rfl,rfl⟩) (by simp;rfl) rfl R (by rw[hR2];simp[wordsI,isAsk,readKind,atW,k1,k2,k3,k4,k5,k6])
   ·simp[c207_cut,a0,e0,slBounds,z1,z2,z3,z4,z5,z6,a1,a2,k1,k2,k3,k4,k5,k6]
    exact Zah s noParcel ⟨Xp _⟩ _ _ 1152 (.sl .own 7 []) (by simp) (by simp) (by simp) (by simp[noParcel,Parcel.c]) (by simp[noParcel]) (.inl ⟨rfl,rfl⟩) (by simp;rfl) rfl R (by rw[hR2];simp[wordsI,isAsk,readKind,atW,k1,k2,k3,k4,k5,k6])
   ·have nb:=law221 c (hws c (by simp))
    simp[c207_cut,a0,e0,slBounds,z1,z2,z3,z4,z5,z6,a1,a2,k1,k2,k3,k4,k5,k6,nb]
    exact Zah s ⟨5,a,0,[],b,⟨#[]⟩,numT c⟩ ⟨Xp _⟩ _ _ 1152 (.sl .own 7 []) (by simp) (by simp) (by simp) (by simp[noParcel,Parcel.c]) (by simp[noParcel]) (.inl ⟨rfl,rfl⟩) (by simp;rfl) rfl R (by rw[hR2];simp[wordsI,isAsk,readKind,atW,k1,k2,k3,k4,k5,k6])
   ·simp[c207_cut,a0,e0,slBounds,z1,z2,z3,z4,z5,z6,a1,a2,k1,k2,k3,k4,k5,k6]
    exact Zah s noParcel ⟨Xp _⟩ _ _ 1152 (.sl .own 7 []) (by simp) (by simp) (by simp) (by simp[noParcel,Parcel.c]) (by simp[noParcel]) (.inl ⟨rfl,rfl⟩) (by simp;rfl) rfl R (by rw[hR2];simp[wordsI,isAsk,readKind,atW,k1,k2,k3,k4,k5,k6])
   ·have q3:¬ (r.length:Int)+1+1+1+1+1+1=3:=by omega
    have q4:¬ (r.length:Int)+1+1+1+1+1+1=4:=by omega
    have q5:¬ (r.length:Int)+1+1+1+1+1+1=5:=by omega
    simp[c207_cut,a0,e0,slBounds,z1,z2,z3,z4,z5,z6,a1,a2,k1,k2,k3,k4,k5,k6,q3,q4,q5]
    exact Zah s noParcel ⟨Xp _⟩ _ _ 1152 (.sl .own 7 []) (by simp) (by simp) (by simp) (by simp[noParcel,Parcel.c]) (by simp[noParcel]) (.inl ⟨rfl,rfl⟩) (by simp;rfl) rfl R (by rw[hR2];simp[wordsI,isAsk,readKind,atW,k1,k2,k3,k4,k5,k6])
  ·obtain⟨k1,k2,k3,k4,k5,k6⟩:=hwd
   rcases wr with _|⟨a,_|⟨b,_|⟨c,_|⟨d,_|⟨e,r⟩⟩⟩⟩⟩
   ·simp[c207_cut,a0,e0,slBounds,z1,z2,z3,z4,z5,z6,a1,a2,k1,k2,k3,k4,k5,k6]
    exact Zah s noParcel ⟨Xp _⟩ _ _ 1152 (.sl .own 7 []) (by simp) (by simp) (by simp) (by simp[noParcel,Parcel.c]) (by simp[noParcel]) (.inl ⟨rfl,rfl⟩) (by simp;rfl) rfl R (by rw[hR2];simp[wordsI,isAsk,readKind,atW,k1,k2,k3,k4,k5,k6])
   ·simp[c207_cut,a0,e0,slBounds,z1,z2,z3,z4,z5,z6,a1,a2,k1,k2,k3,k4,k5,k6]
    exact Zah s noParcel ⟨Xp _⟩ _ _ 1152 (.sl .own 7 []) (by simp) (by simp) (by simp) (by simp[noParcel,Parcel.c]) (by simp[noParcel]) (.inl ⟨rfl,rfl⟩) (by simp;rfl) rfl R (by rw[hR2];simp[wordsI,isAsk,readKind,atW,k1,k2,k3,k4,k5,k6])
   ·have nb:=law221 b (hws b (by simp))
    simp[c207_cut,a0,e0,slBounds,z1,z2,z3,z4,z5,z6,a1,a2,k1,k2,k3,k4,k5,k6,nb]
    exact Zah s ⟨6,a,numT b,[],⟨#[]⟩,⟨#[]⟩,0⟩ ⟨Xp _⟩ _ _ 1152 (.sl .own 7 []) (by simp) (by simp) (by simp) (by simp[noParcel,Parcel.c]) (by simp[noParcel]) (.inl ⟨rfl,rfl⟩) (by simp;rfl) rfl R (by rw[hR2];simp[wordsI,isAsk,readKind,atW,k1,k2,k3,k4,k5,k6])
   ·simp[c207_cut,a0,e0,slBounds,z1,z2,z3,z4,z5,z6,a1,a2,k1,k2,k3,k4,k5,k6]
    exact Zah s noParcel ⟨Xp _⟩ _ _ 1152 (.sl .own 7 []) (by simp) (by simp) (by simp) (by simp[noParcel,Parcel.c]) (by simp[noParcel]) (.inl ⟨rfl,rfl⟩) (by simp;rfl) rfl R (by rw[hR2];simp[wordsI,isAsk,readKind,atW,k1,k2,k3,k4,k5,k6])
   ·simp[c207_cut,a0,e0,slBounds,z1,z2,z3,z4,z5,z6,a1,a2,k1,k2,k3,k4,k5,k6]
    exact Zah s noParcel ⟨Xp _⟩ _ _ 1152 (.sl .own 7 []) (by simp) (by simp) (by simp) (by simp[noParcel,Parcel.c]) (by simp[noParcel]) (.inl ⟨rfl,rfl⟩) (by simp;rfl) rfl R (by rw[hR2];simp[wordsI,isAsk,readKind,atW,k1,k2,k3,k4,k5,k6])
   ·have q3:¬ (r.length:Int)+1+1+1+1+1+1=3:=by omega
    have q4:¬ (r.length:Int)+1+1+1+1+1+1=4:=by omega
    have q5:¬ (r.length:Int)+1+1+1+1+1+1=5:=by omega
    simp[c207_cut,a0,e0,slBounds,z1,z2,z3,z4,z5,z6,a1,a2,k1,k2,k3,k4,k5,k6,q3,q4,q5]
    exact Zah s noParcel ⟨Xp _⟩ _ _ 1152 (.sl .own 7 []) (by simp) (by simp) (by simp) (by simp[noParcel,Parcel.c]) (by simp[noParcel]) (.inl ⟨rfl,rfl⟩) (by simp;rfl) rfl R (by rw[hR2];simp[wordsI,isAsk,readKind,atW,k1,k2,k3,k4,k5,k6])
  ·obtain⟨k1,k2,k3,k4,k5,k6⟩:=hwd
   rcases wr with _|⟨a,_|⟨b,_|⟨c,_|⟨d,_|⟨e,r⟩⟩⟩⟩⟩
   ·simp[c207_cut,a0,e0,slBounds,z1,z2,z3,z4,z5,z6,a1,a2,k1,k2,k3,k4,k5,k6]
    exact Zah s noParcel ⟨Xp _⟩ _ _ 1152 (.sl .own 7 []) (by simp) (by simp) (by simp) (by simp[noParcel,Parcel.c]) (by simp[noParcel]) (.inl ⟨rfl,rfl⟩) (by simp;rfl) rfl R (by rw[hR2];simp[wordsI,isAsk,readKind,atW,k1,k2,k3,k4,k5,k6])
   ·simp[c207_cut,a0,e0,slBounds,z1,z2,z3,z4,z5,z6,a1,a2,k1,k2,k3,k4,k5,k6]
    exact Zah s noParcel ⟨Xp _⟩ _ _ 1152 (.sl .own 7 []) (by simp) (by simp) (by simp) (by simp[noParcel,Parcel.c]) (by simp[noParcel]) (.inl ⟨rfl,rfl⟩) (by simp;rfl) rfl R (by rw[hR2];simp[wordsI,isAsk,readKind,atW,k1,k2,k3,k4,k5,k6])
   ·simp[c207_cut,a0,e0,slBounds,z1,z2,z3,z4,z5,z6,a1,a2,k1,k2,k3,k4,k5,k6]
    exact Zah s noParcel ⟨Xp _⟩ _ _ 1152 (.sl .own 7 []) (by simp) (by simp) (by simp) (by simp[noParcel,Parcel.c]) (by simp[noParcel]) (.inl ⟨rfl,rfl⟩) (by simp;rfl) rfl R (by rw[hR2];simp[wordsI,isAsk,readKind,atW,k1,k2,k3,k4,k5,k6])
   ·simp[c207_cut,a0,e0,slBounds,z1,z2,z3,z4,z5,z6,a1,a2,k1,k2,k3,k4,k5,k6]
    exact Zah s noParcel ⟨Xp _⟩ _ _ 1152 (.sl .own 7 []) (by simp) (by simp) (by simp) (by simp[noParcel,Parcel.c]) (by simp[noParcel]) (.inl ⟨rfl,rfl⟩) (by simp;rfl) rfl R (by rw[hR2];simp[wordsI,isAsk,readKind,atW,k1,k2,k3,k4,k5,k6])
   ·simp[c207_cut,a0,e0,slBounds,z1,z2,z3,z4,z5,z6,a1,a2,k1,k2,k3,k4,k5,k6]
    exact Zah s noParcel ⟨Xp _⟩ _ _ 1152 (.sl .own 7 []) (by simp) (by simp) (by simp) (by simp[noParcel,Parcel.c]) (by simp[noParcel]) (.inl ⟨rfl,rfl⟩) (by simp;rfl) rfl R (by rw[hR2];simp[wordsI,isAsk,readKind,atW,k1,k2,k3,k4,k5,k6])
   ·have q3:¬ (r.length:Int)+1+1+1+1+1+1=3:=by omega
    have q4:¬ (r.length:Int)+1+1+1+1+1+1=4:=by omega
    have q5:¬ (r.length:Int)+1+1+1+1+1+1=5:=by omega
    simp[c207_cut,a0,e0,slBounds,z1,z2,z3,z4,z5,z6,a1,a2,k1,k2,k3,k4,k5,k6,q3,q4,q5]
    exact Zah s noParcel ⟨Xp _⟩ _ _ 1152 (.sl .own 7 []) (by simp) (by simp) (by simp) (by simp[noParcel,Parcel.c]) (by simp[noParcel]) (.inl ⟨rfl,rfl⟩) (by simp;rfl) rfl R (by rw[hR2];simp[wordsI,isAsk,readKind,atW,k1,k2,k3,k4,k5,k6])
/-! ### Numbers -/
theorem Zci{d:Nat}(h:d<10):(UInt8.ofNat (48+d)).toNat=48+d:=by
 rw[UInt8.toNat_ofNat'];omega
theorem Zka:∀ (n:Nat) (x:UInt8),x∈Lib.decDigits n->48<=x.toNat/\x.toNat<=57:=by
 intro n
 induction n using Nat.strongRecOn with
 | ind n ih =>
  intro x hx
  rw[Lib.decDigits]at hx
  split at hx
  ·simp only[Xn]at hx
   subst hx
   rw[Zci (by omega)];omega
  ·rcases Xg.1 hx with hx|hx
   ·exact ih (n / 10) (by omega) x hx
   ·simp only[Xn]at hx
    subst hx
    rw[Zci (by omega)];omega
theorem Zrm(n:Nat):∃ c r,Lib.decDigits n=c::r:=by
 cases h:Lib.decDigits n with
 | cons c r=>exact⟨c,r,rfl⟩
 | nil =>
  rw[Lib.decDigits]at h
  split at h<;>simp at h
theorem Zpv:∀ (n:Nat),n<=1000000->∀ r,Lib.parseUint10 0 (Lib.decDigits n++r)=Lib.parseUint10 n r:=by
 intro n
 induction n using Nat.strongRecOn with
 | ind n ih =>
  intro hn r
  rw[Lib.decDigits]
  split
  ·rename_i h
   rw[Xa1,Xa8,Lib.parseUint10,Zci h,Xr ⟨by omega,by omega⟩,Xu (by omega),Xu (by omega)]
   congr 1;omega
  ·have hd:n % 10<10:=by omega
   rw[Xa7,ih (n / 10) (by omega) (by omega),Xa1,Xa8,Lib.parseUint10,Zci hd,Xr ⟨by omega,by omega⟩,Xu (by omega),Xu (by omega)]
   congr 1;omega
theorem Zqv:∀ (n:Nat) (r:List UInt8),digs 0 (Lib.decDigits n++r)=digs n r:=by
 intro n
 induction n using Nat.strongRecOn with
 | ind n ih =>
  intro r
  rw[Lib.decDigits]
  split
  ·rename_i h
   rw[Xa1,Xa8,digs,Zci h,Xr ⟨by omega,by omega⟩]
   congr 1;omega
  ·have hd:n % 10<10:=by omega
   rw[Xa7,ih (n / 10) (by omega),Xa1,Xa8,digs,Zci hd,Xr ⟨by omega,by omega⟩]
   congr 1;omega
theorem Zbe(n:Int)(h0:0<=n)(h1:n<=1000000):numT (dec n.toNat)=n:=by
 unfold numT
 rw[Zbo]
 obtain⟨c,r,e⟩:=Zrm n.toNat
 have hc:=Zka n.toNat c (by rw[e];exact Xi)
 have hp:=Zpv n.toNat (by omega) []
 rw[Xb6]at hp
 rw[e]at hp ⊢
 simp only[Lib.atoiAll,Lib.parseMag]
 have hs:¬ (c.toNat=43\/c.toNat=45):=by omega
 have hm:¬ c.toNat=45:=by omega
 rw[Xu hs,Xu (List.cons_ne_nil _ _),hp]
 simp only[Lib.parseUint10]
 rw[Xu (by omega),Xu (by omega),Xu hm]
 show ((n.toNat:Nat):Int)=n
 omega
theorem Zbd(n:Int)(h0:0<=n)(h1:n<=1000000):num7 (dec n.toNat)=n:=by
 have hs:=(law140' n h0 h1).2
 obtain⟨c,r,e⟩:=Zrm n.toNat
 have h1:1<=(dec n.toNat).size:=by
  rw[<- Zal,Zbo,e];simp
 have hd:=Zqv n.toNat []
 rw[Xb6]at hd
 rw[num7,Xr ⟨h1,hs⟩,Zbo,hd]
 simp only[digs]
 rw[show ((n.toNat:Nat):Int)=n by omega,(Zac _ _).2 rfl]
 rfl
/-! ### Lines and words -/
def lns(ls:List (List UInt8)):List UInt8:=ls.flatMap (·++[10])
def wds(w:List UInt8)(r:List (List UInt8)):List UInt8:=w++r.flatMap (32::·)
theorem Zo1:∀ (w:List UInt8) (r:List (List UInt8)),(∀ x∈w::r,¬ (32:UInt8)∈x)->cutA 32 [] (wds w r)=w::r
 | w,[],h=>by
  rw[wds,List.flatMap_nil,Xb6,Zjh _ (h w Xi)];rfl
 | w,v::r,h=>by
  rw[wds,Xai,Xa1,Zgw _ (h w Xi),Xa8]
  have:=Zo1 v r (fun x hx=>h x (Xh _ hx))
  rw[wds]at this
  rw[this]
theorem Zo0:∀ (ls:List (List UInt8)),(∀ x∈ls,¬ (10:UInt8)∈x)->cutA 10 [] (lns ls)=ls++[[]]
 | [],_=>rfl
 | l::ls,h=>by
  rw[lns,Xai,Xa7,Xa1,Xa8,Zgw _ (h l Xi),Xa8]
  have:=Zo0 ls (fun x hx=>h x (Xh _ hx))
  rw[lns]at this
  rw[this];rfl
theorem Zrn(l:List UInt8)(ls:List (List UInt8)):lns (l::ls)≠[]:=by simp[lns]
theorem Zmz:∀ (l:List UInt8) (ls:List (List UInt8)),(∀ x∈l::ls,¬ (10:UInt8)∈x)->cutA 10 [] (lns (l::ls)).dropLast=l::ls
 | l,[],h=>by
  rw[lns,Xai,List.flatMap_nil,Xb6,List.dropLast_concat,Zjh _ (h l Xi)];rfl
 | l,v::ls,h=>by
  have e:(lns (l::v::ls)).dropLast=l++10::(lns (v::ls)).dropLast:=by
   rw[lns,Xai,Xa7,Xa1,Xa8,List.dropLast_append_of_ne_nil (by simp)]
   show l++(10::lns (v::ls)).dropLast=_
   rw[List.dropLast_cons_of_ne_nil (Zrn v ls)]
  rw[e,Zgw _ (h l Xi),Zmz v ls (fun x hx=>h x (Xh _ hx))];rfl
theorem Zob:∀ (l:List UInt8) (ls:List (List UInt8)),Lib.hasSuffix (lns (l::ls)) [10]=true:=by
 intro l ls
 induction ls generalizing l with
 | nil=>simp[lns,Lib.hasSuffix]
 | cons v ls ih =>
  have:=ih v
  simp only[Lib.hasSuffix,List.isSuffixOf_iff_suffix]at this ⊢
  rw[show lns (l::v::ls)=(l++[10])++lns (v::ls) by simp[lns]]
  exact List.IsSuffix.trans this (List.suffix_append _ _)
theorem Za5(s:T):mkT s.data.toList=s:=rfl
theorem Zdq{s:T}{l:List UInt8}{ls:List (List UInt8)}(hs:s.data.toList=lns (l::ls))(h:∀ x∈l::ls,¬ (10:UInt8)∈x) :
  readS s=readWords (atW (cutT (mkT l) 32) 0) (cutT (mkT l) 32) (ls.map mkT++[⟨#[]⟩])/\readI s=outI s (wordsI (atW (cutT (mkT l) 32) 0) (cutT (mkT l) 32) (ls.map mkT))/\sEq s ⟨#[]⟩=false:=by
 have e1:cutT s 10=mkT l::(ls.map mkT++[⟨#[]⟩]):=by
  rw[cutT,hs,Zo0 _ h];simp;rfl
 have e2:cutT (s.extract 0 (s.size-1)) 10=mkT l::ls.map mkT:=by
  rw[cutT,Zff,Zjw,List.drop_zero,<- Zal,<- List.dropLast_eq_take,hs,Zmz _ _ h];rfl
 refine⟨?_,?_,?_⟩
 ·rw[readS,e1];rfl
 ·rw[readI,e2,hs,Zob];rfl
 ·refine Zad fun e=>?_
  rw[e]at hs
  exact Zrn l ls hs.symm
theorem Ztd:Words ⟨#[116,111,108,100]⟩ true false false false false false:=⟨(Zac _ _).2 rfl,Zad (by intro e;cases e),Zad (by intro e;cases e),Zad (by intro e;cases e),Zad (by intro e;cases e),Zad (by intro e;cases e)⟩
theorem Zst:Words ⟨#[97,115,107,101,100]⟩ false true false false false false:=⟨Zad (by intro e;cases e),(Zac _ _).2 rfl,Zad (by intro e;cases e),Zad (by intro e;cases e),Zad (by intro e;cases e),Zad (by intro e;cases e)⟩
theorem Zsu:Words ⟨#[103,105,118,101,110]⟩ false false true false false false:=⟨Zad (by intro e;cases e),Zad (by intro e;cases e),(Zac _ _).2 rfl,Zad (by intro e;cases e),Zad (by intro e;cases e),Zad (by intro e;cases e)⟩
theorem Ztb:Words ⟨#[98,97,99,107]⟩ false false false true false false:=⟨Zad (by intro e;cases e),Zad (by intro e;cases e),Zad (by intro e;cases e),(Zac _ _).2 rfl,Zad (by intro e;cases e),Zad (by intro e;cases e)⟩
theorem Zqb:Words ⟨#[103,111,116,98,97,99,107]⟩ false false false false true false:=⟨Zad (by intro e;cases e),Zad (by intro e;cases e),Zad (by intro e;cases e),Zad (by intro e;cases e),(Zac _ _).2 rfl,Zad (by intro e;cases e)⟩
theorem Ztc:Words ⟨#[104,101,114,101]⟩ false false false false false true:=⟨Zad (by intro e;cases e),Zad (by intro e;cases e),Zad (by intro e;cases e),Zad (by intro e;cases e),Zad (by intro e;cases e),(Zac _ _).2 rfl⟩
theorem Zch(n:Nat):mkT (Lib.decDigits n)=dec n:=Zb8 (Zbo n).symm
theorem Zan{s:T}(h:isName s=true)(b:UInt8)(hb:b.toNat<33):¬ b∈s.data.toList:=by
 intro hm
 simp only[isName,Xc,Xao]at h
 have:=h.2 b hm
 simp only[nameByte,Xc,Xj]at this
 omega
theorem Zbp(n:Nat)(b:UInt8)(hb:b.toNat<33):¬ b∈Lib.decDigits n:=fun hm=>by
 have:=(Zka n b hm).1
 omega
theorem Zhl{b:UInt8}(hb:b≠32){w:List UInt8}{r:List (List UInt8)}(h:∀ x∈w::r,¬ b∈x):¬ b∈wds w r:=by
 intro hm
 rcases Xg.1 hm with hm|hm
 ·exact h w Xi hm
 ·obtain⟨x,hx,hm⟩:=Xbn.1 hm
  rcases Xl.1 hm with hm|hm
  ·exact hb hm
  ·exact h x (Xh _ hx) hm
theorem Zbz{h:T}(k:isHold h=true):isName h=true:=by
 simp only[isHold,Xc]at k
 exact k.1
theorem Zcx{w:List UInt8}{r:List (List UInt8)}(h:∀ x∈w::r,¬ (32:UInt8)∈x):cutT (mkT (wds w r)) 32=mkT w::r.map mkT:=by
 rw[cutT,Zjw,Zo1 w r h];rfl
def Round(s:T)(p:Parcel):Prop:=readS s=p/\readI s=outI s (some p)/\sEq s ⟨#[]⟩=false
theorem Zmd(b:T)(h:T)(c:T)(a:Int)(hb:isName b=true)(hh:isName h=true)(hc:isName c=true)(ha:0<=a/\a<=1000000){s:T}(hs:s.data.toList=lns [wds [97,115,107,101,100] [b.data.toList,h.data.toList,c.data.toList,Lib.decDigits a.toNat]]):Round s ⟨2,b,0,[],h,c,a⟩:=by
 have n32:∀ x∈[97,115,107,101,100]::[b.data.toList,h.data.toList,c.data.toList,Lib.decDigits a.toNat],¬ (32:UInt8)∈x:=by
  intro x hx
  simp only[Xl,Xav,Xcb]at hx
  rcases hx with rfl|rfl|rfl|rfl|rfl
  ·decide
  ·exact Zan hb _ (by decide)
  ·exact Zan hh _ (by decide)
  ·exact Zan hc _ (by decide)
  ·exact Zbp _ _ (by decide)
 have n10:∀ x∈[97,115,107,101,100]::[b.data.toList,h.data.toList,c.data.toList,Lib.decDigits a.toNat],¬ (10:UInt8)∈x:=by
  intro x hx
  simp only[Xl,Xav,Xcb]at hx
  rcases hx with rfl|rfl|rfl|rfl|rfl
  ·decide
  ·exact Zan hb _ (by decide)
  ·exact Zan hh _ (by decide)
  ·exact Zan hc _ (by decide)
  ·exact Zbp _ _ (by decide)
 obtain⟨r1,r2,r3⟩:=Zdq hs (fun x hx=>by rw[Xn.1 hx];exact Zhl (by decide) n10)
 rw[Zcx n32]at r1 r2
 obtain⟨k1,k2,k3,k4,k5,k6⟩:=Zst
 have e0:mkT [97,115,107,101,100]=⟨#[97,115,107,101,100]⟩:=rfl
 have a1:=Zbd a ha.1 ha.2
 have a2:=Zbe a ha.1 ha.2
 refine⟨?_,?_,r3⟩
 ·rw[r1];simp[readWords,isAsk,readKind,atW,e0,k1,k2,k3,k4,k5,k6,Zch,a1,Za5]
 ·rw[r2];simp[wordsI,isAsk,readKind,atW,e0,k1,k2,k3,k4,k5,k6,Zch,a2,Za5]
theorem Zme(b:T)(h:T)(c:T)(a:Int)(hb:isName b=true)(hh:isName h=true)(hc:isName c=true)(ha:0<=a/\a<=1000000){s:T}(hs:s.data.toList=lns [wds [103,105,118,101,110] [b.data.toList,h.data.toList,c.data.toList,Lib.decDigits a.toNat]]):Round s ⟨3,b,0,[],h,c,a⟩:=by
 have n32:∀ x∈[103,105,118,101,110]::[b.data.toList,h.data.toList,c.data.toList,Lib.decDigits a.toNat],¬ (32:UInt8)∈x:=by
  intro x hx
  simp only[Xl,Xav,Xcb]at hx
  rcases hx with rfl|rfl|rfl|rfl|rfl
  ·decide
  ·exact Zan hb _ (by decide)
  ·exact Zan hh _ (by decide)
  ·exact Zan hc _ (by decide)
  ·exact Zbp _ _ (by decide)
 have n10:∀ x∈[103,105,118,101,110]::[b.data.toList,h.data.toList,c.data.toList,Lib.decDigits a.toNat],¬ (10:UInt8)∈x:=by
  intro x hx
  simp only[Xl,Xav,Xcb]at hx
  rcases hx with rfl|rfl|rfl|rfl|rfl
  ·decide
  ·exact Zan hb _ (by decide)
  ·exact Zan hh _ (by decide)
  ·exact Zan hc _ (by decide)
  ·exact Zbp _ _ (by decide)
 obtain⟨r1,r2,r3⟩:=Zdq hs (fun x hx=>by rw[Xn.1 hx];exact Zhl (by decide) n10)
 rw[Zcx n32]at r1 r2
 obtain⟨k1,k2,k3,k4,k5,k6⟩:=Zsu
 have e0:mkT [103,105,118,101,110]=⟨#[103,105,118,101,110]⟩:=rfl
 have a1:=Zbd a ha.1 ha.2
 have a2:=Zbe a ha.1 ha.2
 refine⟨?_,?_,r3⟩
 ·rw[r1];simp[readWords,isAsk,readKind,atW,e0,k1,k2,k3,k4,k5,k6,Zch,a1,Za5]
 ·rw[r2];simp[wordsI,isAsk,readKind,atW,e0,k1,k2,k3,k4,k5,k6,Zch,a2,Za5]
theorem Zog(b:T)(h:T)(c:T)(a:Int)(hb:isName b=true)(hh:isName h=true)(hc:isName c=true)(ha:0<=a/\a<=1000000){s:T}(hs:s.data.toList=lns [wds [98,97,99,107] [b.data.toList,h.data.toList,c.data.toList,Lib.decDigits a.toNat]]):Round s ⟨4,b,0,[],h,c,a⟩:=by
 have n32:∀ x∈[98,97,99,107]::[b.data.toList,h.data.toList,c.data.toList,Lib.decDigits a.toNat],¬ (32:UInt8)∈x:=by
  intro x hx
  simp only[Xl,Xav,Xcb]at hx
  rcases hx with rfl|rfl|rfl|rfl|rfl
  ·decide
  ·exact Zan hb _ (by decide)
  ·exact Zan hh _ (by decide)
  ·exact Zan hc _ (by decide)
  ·exact Zbp _ _ (by decide)
 have n10:∀ x∈[98,97,99,107]::[b.data.toList,h.data.toList,c.data.toList,Lib.decDigits a.toNat],¬ (10:UInt8)∈x:=by
  intro x hx
  simp only[Xl,Xav,Xcb]at hx
  rcases hx with rfl|rfl|rfl|rfl|rfl
  ·decide
  ·exact Zan hb _ (by decide)
  ·exact Zan hh _ (by decide)
  ·exact Zan hc _ (by decide)
  ·exact Zbp _ _ (by decide)
 obtain⟨r1,r2,r3⟩:=Zdq hs (fun x hx=>by rw[Xn.1 hx];exact Zhl (by decide) n10)
 rw[Zcx n32]at r1 r2
 obtain⟨k1,k2,k3,k4,k5,k6⟩:=Ztb
 have e0:mkT [98,97,99,107]=⟨#[98,97,99,107]⟩:=rfl
 have a1:=Zbd a ha.1 ha.2
 have a2:=Zbe a ha.1 ha.2
 refine⟨?_,?_,r3⟩
 ·rw[r1];simp[readWords,isAsk,readKind,atW,e0,k1,k2,k3,k4,k5,k6,Zch,a1,Za5]
 ·rw[r2];simp[wordsI,isAsk,readKind,atW,e0,k1,k2,k3,k4,k5,k6,Zch,a2,Za5]
theorem Zjz(b:T)(h:T)(a:Int)(hb:isName b=true)(hh:isName h=true)(ha:0<=a/\a<=1000000){s:T}(hs:s.data.toList=lns [wds [103,111,116,98,97,99,107] [b.data.toList,h.data.toList,Lib.decDigits a.toNat]]):Round s ⟨5,b,0,[],h,⟨#[]⟩,a⟩:=by
 have n32:∀ x∈[103,111,116,98,97,99,107]::[b.data.toList,h.data.toList,Lib.decDigits a.toNat],¬ (32:UInt8)∈x:=by
  intro x hx
  simp only[Xl,Xav,Xcb]at hx
  rcases hx with rfl|rfl|rfl|rfl
  ·decide
  ·exact Zan hb _ (by decide)
  ·exact Zan hh _ (by decide)
  ·exact Zbp _ _ (by decide)
 have n10:∀ x∈[103,111,116,98,97,99,107]::[b.data.toList,h.data.toList,Lib.decDigits a.toNat],¬ (10:UInt8)∈x:=by
  intro x hx
  simp only[Xl,Xav,Xcb]at hx
  rcases hx with rfl|rfl|rfl|rfl
  ·decide
  ·exact Zan hb _ (by decide)
  ·exact Zan hh _ (by decide)
  ·exact Zbp _ _ (by decide)
 obtain⟨r1,r2,r3⟩:=Zdq hs (fun x hx=>by rw[Xn.1 hx];exact Zhl (by decide) n10)
 rw[Zcx n32]at r1 r2
 obtain⟨k1,k2,k3,k4,k5,k6⟩:=Zqb
 have e0:mkT [103,111,116,98,97,99,107]=⟨#[103,111,116,98,97,99,107]⟩:=rfl
 have a1:=Zbd a ha.1 ha.2
 have a2:=Zbe a ha.1 ha.2
 refine⟨?_,?_,r3⟩
 ·rw[r1];simp[readWords,isAsk,readKind,atW,e0,k1,k2,k3,k4,k5,k6,Zch,a1,Za5]
 ·rw[r2];simp[wordsI,isAsk,readKind,atW,e0,k1,k2,k3,k4,k5,k6,Zch,a2,Za5]
theorem Zoh(b:T)(a:Int)(hb:isName b=true)(ha:0<=a/\a<=1000000){s:T}(hs:s.data.toList=lns [wds [104,101,114,101] [b.data.toList,Lib.decDigits a.toNat]]):Round s ⟨6,b,a,[],⟨#[]⟩,⟨#[]⟩,0⟩:=by
 have n32:∀ x∈[104,101,114,101]::[b.data.toList,Lib.decDigits a.toNat],¬ (32:UInt8)∈x:=by
  intro x hx
  simp only[Xl,Xav,Xcb]at hx
  rcases hx with rfl|rfl|rfl
  ·decide
  ·exact Zan hb _ (by decide)
  ·exact Zbp _ _ (by decide)
 have n10:∀ x∈[104,101,114,101]::[b.data.toList,Lib.decDigits a.toNat],¬ (10:UInt8)∈x:=by
  intro x hx
  simp only[Xl,Xav,Xcb]at hx
  rcases hx with rfl|rfl|rfl
  ·decide
  ·exact Zan hb _ (by decide)
  ·exact Zbp _ _ (by decide)
 obtain⟨r1,r2,r3⟩:=Zdq hs (fun x hx=>by rw[Xn.1 hx];exact Zhl (by decide) n10)
 rw[Zcx n32]at r1 r2
 obtain⟨k1,k2,k3,k4,k5,k6⟩:=Ztc
 have e0:mkT [104,101,114,101]=⟨#[104,101,114,101]⟩:=rfl
 have a1:=Zbd a ha.1 ha.2
 have a2:=Zbe a ha.1 ha.2
 refine⟨?_,?_,r3⟩
 ·rw[r1];simp[readWords,isAsk,readKind,atW,e0,k1,k2,k3,k4,k5,k6,Zch,a1,Za5]
 ·rw[r2];simp[wordsI,isAsk,readKind,atW,e0,k1,k2,k3,k4,k5,k6,Zch,a2,Za5]
/-! ### Wants -/
def wantLine(w:Want):List UInt8:=wds [119,97,110,116] [w.copy.data.toList,Lib.decDigits w.version.toNat,(starOr w.hold).data.toList,Lib.decDigits w.pull.toNat,Lib.decDigits w.start.toNat,Lib.decDigits w.dies.toNat,Lib.decDigits w.grace.toNat]
theorem Zjn(w:Want):(formWant w).data.toList=wantLine w++[10]:=by
 simp[formWant,Zax,Zbo,wantLine,wds]
theorem Zdx:∀ (ws:List Want) (acc:T),(formWants acc ws).data.toList=acc.data.toList++lns (ws.map wantLine)
 | [],acc=>by simp[formWants,lns]
 | w::ws,acc=>by rw[formWants,Zdx ws,Zax,Zjn];simp[lns]
theorem Zp6{h:T}(k:(sEq h ⟨#[]⟩ || isHold h)=true)(b:UInt8)(hb:b.toNat<33):¬ b∈(starOr h).data.toList:=by
 unfold starOr
 split
 ·intro hm
  have:b=42:=by simpa using hm
  subst this
  exact absurd hb (by decide)
 ·rename_i hn
  rcases Bool.or_eq_true_iff.1 k with k|k
  ·exact absurd k hn
  ·exact Zan (Zbz k) b hb
theorem Zmn{h:T}(k:sEq h ⟨#[42]⟩=false):unstar (starOr h)=h:=by
 unfold starOr
 by_cases e:sEq h ⟨#[]⟩=true
 ·rw[Xr e,(Zac _ _).1 e]
  have:sEq ⟨#[42]⟩ ⟨#[42]⟩=true:=(Zac _ _).2 rfl
  simp[unstar,this]
 ·rw[Xu e,unstar,k]
  rfl
theorem Zmp{w:Want}(h:wantOk w=true)(b:UInt8)(hb:b.toNat<32):¬ b∈wantLine w:=by
 have hc:isName w.copy=true:=by simp only[wantOk,Xc]at h;exact h.1.1.1.1.1.1
 have hh:(sEq w.hold ⟨#[]⟩ || isHold w.hold)=true:=by simp only[wantOk,Xc]at h;exact h.1.1.1.1.2
 refine Zhl (fun e=>by subst e;exact absurd hb (by decide)) fun x hx=>?_
 simp only[Xl,Xav,Xcb]at hx
 rcases hx with rfl|rfl|rfl|rfl|rfl|rfl|rfl|rfl
 ·intro hm
  simp only[Xl,Xav,Xcb]at hm
  rcases hm with rfl|rfl|rfl|rfl<;>exact absurd hb (by decide)
 ·exact Zan hc b (by omega)
 ·exact Zbp _ b (by omega)
 ·exact Zp6 hh b (by omega)
 all_goals exact Zbp _ b (by omega)
theorem Zor{w:Want}(h:wantOk w=true):cutT (mkT (wantLine w)) 32=[⟨#[119,97,110,116]⟩,w.copy,dec w.version.toNat,starOr w.hold,dec w.pull.toNat,dec w.start.toNat,dec w.dies.toNat,dec w.grace.toNat]:=by
 have hc:isName w.copy=true:=by simp only[wantOk,Xc]at h;exact h.1.1.1.1.1.1
 have hh:(sEq w.hold ⟨#[]⟩ || isHold w.hold)=true:=by simp only[wantOk,Xc]at h;exact h.1.1.1.1.2
 rw[wantLine,Zcx]
 ·simp[Zch,Za5];rfl
 ·intro x hx
  simp only[Xl,Xav,Xcb]at hx
  rcases hx with rfl|rfl|rfl|rfl|rfl|rfl|rfl|rfl
  ·decide
  ·exact Zan hc _ (by decide)
  ·exact Zbp _ _ (by decide)
  ·exact Zp6 hh _ (by decide)
  all_goals exact Zbp _ _ (by decide)
theorem Zld{w:Want}(h:wantOk w=true):readWant (cutT (mkT (wantLine w)) 32)=w/\wantI (cutT (mkT (wantLine w)) 32)=w/\lineOk (cutT (mkT (wantLine w)) 32)=true:=by
 obtain⟨_,_,f1,f2,f3,f4,f5⟩:=Zc7 h
 have hs:=Zmn (Zh5 h)
 have e:sEq ⟨#[119,97,110,116]⟩ ⟨#[119,97,110,116]⟩=true:=(Zac _ _).2 rfl
 rw[Zor h]
 refine⟨?_,?_,?_⟩
 ·simp[readWant,atW,Zbd _ f1.1 f1.2,Zbd _ f2.1 f2.2,Zbd _ f3.1 f3.2,Zbd _ f4.1 f4.2,Zbd _ f5.1 f5.2,hs]
 ·simp[wantI,atW,Zbe _ f1.1 f1.2,Zbe _ f2.1 f2.2,Zbe _ f3.1 f3.2,Zbe _ f4.1 f4.2,Zbe _ f5.1 f5.2,hs]
 ·simp[lineOk,atW,e]
theorem Ziz:∀ (ws acc:List Want),(∀ w∈ws,wantOk w=true)->linesI acc ((ws.map wantLine).map mkT)=some (acc++ws)
 | [],acc,_=>by simp[linesI]
 | w::ws,acc,h=>by
  obtain⟨_,h2,h3⟩:=Zld (h w Xi)
  rw[Xx,Xx,linesI,h3,Xr rfl,h2,Ziz ws _ (fun x hx=>h x (Xh _ hx)),Xa7];rfl
theorem Zoa(ws:List Want)(h:∀ w∈ws,wantOk w=true):readLines ((ws.map wantLine).map mkT++[⟨#[]⟩])=ws:=by
 rw[readLines,List.dropLast_concat,List.map_map,List.map_map]
 conv=>rhs;rw[<- List.map_id ws]
 exact List.map_congr_left fun w hw=>(Zld (h w hw)).1
theorem Zoi(b:T)(a:Int)(ws:List Want)(hb:isName b=true)(ha:0<=a/\a<=1000000)(hw:∀ w∈ws,wantOk w=true){s:T}(hs:s.data.toList=lns (wds [116,111,108,100] [b.data.toList,Lib.decDigits a.toNat]::ws.map wantLine)):Round s ⟨1,b,a,ws,⟨#[]⟩,⟨#[]⟩,0⟩:=by
 have n32:∀ x∈[116,111,108,100]::[b.data.toList,Lib.decDigits a.toNat],¬ (32:UInt8)∈x:=by
  intro x hx
  simp only[Xl,Xav,Xcb]at hx
  rcases hx with rfl|rfl|rfl
  ·decide
  ·exact Zan hb _ (by decide)
  ·exact Zbp _ _ (by decide)
 have n10:∀ x∈[116,111,108,100]::[b.data.toList,Lib.decDigits a.toNat],¬ (10:UInt8)∈x:=by
  intro x hx
  simp only[Xl,Xav,Xcb]at hx
  rcases hx with rfl|rfl|rfl
  ·decide
  ·exact Zan hb _ (by decide)
  ·exact Zbp _ _ (by decide)
 obtain⟨r1,r2,r3⟩:=Zdq hs (fun x hx=>by
  rcases Xl.1 hx with hx|hx
  ·rw[hx];exact Zhl (by decide) n10
  ·obtain⟨w,h1,rfl⟩:=Xap.1 hx
   exact Zmp (hw w h1) _ (by decide))
 rw[Zcx n32]at r1 r2
 obtain⟨k1,k2,k3,k4,k5,k6⟩:=Ztd
 have e0:mkT [116,111,108,100]=⟨#[116,111,108,100]⟩:=rfl
 have a1:=Zbd a ha.1 ha.2
 have a2:=Zbe a ha.1 ha.2
 have l1:=Zoa ws hw
 have l2:=Ziz ws [] hw
 refine⟨?_,?_,r3⟩
 ·rw[r1,readWords,l1];simp[atW,e0,k1,Zch,a1,Za5]
 ·rw[r2,wordsI,l2];simp[atW,e0,k1,Zch,a2,Za5]
/-! ### Both ways -/
theorem round{s:T}{p:Parcel}(hp:parcelForm p=s)(hs:s≠⟨#[]⟩):Round s p:=by
 obtain⟨kind,b,seen,ws,h,c,a⟩:=p
 unfold parcelForm at hp
 simp only at hp
 split at hp
 case isFalse=>exact absurd hp.symm hs
 rename_i hb
 unfold formSw at hp
 simp only at hp
 split at hp
 ·rename_i hk
  split at hp
  case isFalse=>exact absurd hp.symm hs
  rename_i hc
  simp only[Xc,noHold,Xan]at hc
  obtain⟨c1,c2,c3,c4,c5⟩:=hc
  have c3:=(Zac _ _).1 c3
  have c4:=(Zac _ _).1 c4
  subst hk;subst c3;subst c4;subst c5
  obtain⟨i1,i2⟩:=Zbb c1
  refine Zoi b seen ws hb ⟨by omega,by omega⟩ ((Zaq _).1 c2).2.1 ?_
  rw[<- hp,Zdx]
  simp[toldHead,Zax,Zbo,lns,wds]
 ·split at hp
  ·rename_i hk
   split at hp
   case isFalse=>exact absurd hp.symm hs
   rename_i hc
   simp only[Xc,Xan,Xcr]at hc
   obtain⟨c1,c2,c3,c4,c5⟩:=hc
   subst c4;subst c5
   obtain⟨i1,i2⟩:=Zbb c3
   rcases hk with rfl|rfl|rfl
   ·refine Zmd b h c a hb (Zbz c1) c2 ⟨i1,i2⟩ ?_
    rw[<- hp]
    simp[word,Zax,Zbo,lns,wds]
   ·refine Zme b h c a hb (Zbz c1) c2 ⟨i1,i2⟩ ?_
    rw[<- hp]
    simp[word,Zax,Zbo,lns,wds]
   ·refine Zog b h c a hb (Zbz c1) c2 ⟨i1,i2⟩ ?_
    rw[<- hp]
    simp[word,Zax,Zbo,lns,wds]
  ·split at hp
   ·rename_i hk
    split at hp
    case isFalse=>exact absurd hp.symm hs
    rename_i hc
    simp only[Xc,Xan,Xcr]at hc
    obtain⟨c1,c2,c3,c4,c5⟩:=hc
    have c2:=(Zac _ _).1 c2
    subst hk;subst c2;subst c4;subst c5
    obtain⟨i1,i2⟩:=Zbb c3
    refine Zjz b h a hb (Zbz c1) ⟨i1,i2⟩ ?_
    rw[<- hp]
    simp[Zax,Zbo,lns,wds]
   ·split at hp
    ·rename_i hk
     split at hp
     case isFalse=>exact absurd hp.symm hs
     rename_i hc
     simp only[Xc,Xan,Xcr,noHold]at hc
     obtain⟨c1,c2,c3,c4,c5⟩:=hc
     have c3:=(Zac _ _).1 c3
     have c4:=(Zac _ _).1 c4
     subst hk;subst c2;subst c3;subst c4;subst c5
     obtain⟨i1,i2⟩:=Zbb c1
     refine Zoh b seen hb ⟨i1,i2⟩ ?_
     rw[<- hp]
     simp[Zax,Zbo,lns,wds]
    ·exact absurd hp.symm hs
theorem Zhp(s:T):readI s=readT s:=by
 by_cases hg:s≠⟨#[]⟩/\parcelForm (readS s)=s
 ·obtain⟨h1,h2⟩:=hg
  obtain⟨r1,r2,r3⟩:=round h2 h1
  rw[r2,readT,r3,h2,outI,h2,(Zac s s).2 rfl]
  rfl
 ·have hT:readT s=(noParcel,false):=by
   rw[readT,Xr]
   by_cases h1:s=⟨#[]⟩
   ·rw[(Zac _ _).2 h1];rfl
   ·rw[Zad (fun e=>hg ⟨h1,e⟩)];simp
  rw[hT,readI]
  split
  ·rename_i hsx
   cases hq:wordsI (atW (cutT (atW (cutT (s.extract 0 (s.size-1)) 10) 0) 32) 0) (cutT (atW (cutT (s.extract 0 (s.size-1)) 10) 0) 32) (cutT (s.extract 0 (s.size-1)) 10).tail with
   | none=>rfl
   | some q =>
    rw[outI]
    split
    ·rename_i hf
     have hf:=(Zac _ _).1 hf
     have hne:s≠⟨#[]⟩:=fun e=>by
      rw[e]at hsx
      cases hsx
     obtain⟨r1,_,_⟩:=round hf hne
     exact absurd ⟨hne,by rw[r1];exact hf⟩ hg
    ·rfl
  ·rfl
theorem Zr9(a:Want):eqCells [.s,.i,.s,.i,.i,.i,.i] a.c a.c=some true:=by
 simp[eqCells,eqCell]
 exact (Zfd a a).2 rfl
def headWWant(m m':Md)(xs:List Want)(i:Nat):St:=hd [(0,.sl m 7 (xs.map Want.c)),(1,.sl m' 7 (xs.map Want.c)),(5,.int .i64 i)] [] 0
theorem law118(xs:List Want)(hl:xs.length<=1048576):F 118 [.sl .bor 7 (xs.map Want.c),.sl .bor 7 (xs.map Want.c)] []=some (.bool true,[]):=by
 refine Zae fn118 rfl ?_
 simp[c118]
 refine (Zaa xs (fun i (_:Unit)=>headWWant .bor .bor xs i) (fun _ _=>True) (fun _ _ _=>(.bool true,[])) (fun acc Y _=>?_) (fun i a r acc Y ha hi hr _ hY=>?_) () ?_ trivial ?_).trans rfl
 ·simp[headWWant,c118b0]
 ·have hw:IntKind.i64.wrap ((i:Int)+1)=(i:Int)+1:=i64w (by omega) (by omega)
  obtain⟨_,hg⟩:=Xa.1 ha
  have he:=Zr9 a
  simp only[Want.c]at he
  simp[headWWant,c118b0,hi,hg,he]
  refine hY () _ trivial ?_
  simp[headWWant,hw]
 ·simp[headWWant]
 ·unfold big;omega
theorem Zs8(a:Run):eqCells [.s,.i,.s,.i,.i,.i,.i,.i,.i,.i,.i] a.c a.c=some true:=by simp[eqCells,eqCell]
def headWRun(m m':Md)(xs:List Run)(i:Nat):St:=hd [(0,.sl m 11 (xs.map Run.c)),(1,.sl m' 11 (xs.map Run.c)),(5,.int .i64 i)] [] 0
theorem law31(xs:List Run)(hl:xs.length<=1048576):F 31 [.sl .bor 11 (xs.map Run.c),.sl .bor 11 (xs.map Run.c)] []=some (.bool true,[]):=by
 refine Zae fn31 rfl ?_
 simp[c31]
 refine (Zaa xs (fun i (_:Unit)=>headWRun .bor .bor xs i) (fun _ _=>True) (fun _ _ _=>(.bool true,[])) (fun acc Y _=>?_) (fun i a r acc Y ha hi hr _ hY=>?_) () ?_ trivial ?_).trans rfl
 ·simp[headWRun,c31b0]
 ·have hw:IntKind.i64.wrap ((i:Int)+1)=(i:Int)+1:=i64w (by omega) (by omega)
  obtain⟨_,hg⟩:=Xa.1 ha
  have he:=Zs8 a
  simp only[Run.c]at he
  simp[headWRun,c31b0,hi,hg,he]
  refine hY () _ trivial ?_
  simp[headWRun,hw]
 ·simp[headWRun]
 ·unfold big;omega
theorem Zs7(a:Ask):eqCells [.s,.s,.i,.i] a.c a.c=some true:=by simp[eqCells,eqCell]
def headWAsk(m m':Md)(xs:List Ask)(i:Nat):St:=hd [(0,.sl m 4 (xs.map Ask.c)),(1,.sl m' 4 (xs.map Ask.c)),(5,.int .i64 i)] [] 0
theorem law119(xs:List Ask)(hl:xs.length<=1048576):F 119 [.sl .bor 4 (xs.map Ask.c),.sl .bor 4 (xs.map Ask.c)] []=some (.bool true,[]):=by
 refine Zae fn119 rfl ?_
 simp[c119]
 refine (Zaa xs (fun i (_:Unit)=>headWAsk .bor .bor xs i) (fun _ _=>True) (fun _ _ _=>(.bool true,[])) (fun acc Y _=>?_) (fun i a r acc Y ha hi hr _ hY=>?_) () ?_ trivial ?_).trans rfl
 ·simp[headWAsk,c119b0]
 ·have hw:IntKind.i64.wrap ((i:Int)+1)=(i:Int)+1:=i64w (by omega) (by omega)
  obtain⟨_,hg⟩:=Xa.1 ha
  have he:=Zs7 a
  simp only[Ask.c]at he
  simp[headWAsk,c119b0,hi,hg,he]
  refine hY () _ trivial ?_
  simp[headWAsk,hw]
 ·simp[headWAsk]
 ·unfold big;omega
theorem law33(m:Mate)(hm:m.small):F 33 [.agg (m.c .bor),.agg (m.c .bor)] []=some (.bool true,[]):=by
 refine Zae fn33 rfl ?_
 have w1:=law118 m.wants hm.wants
 have w2:=law31 m.runs hm.runs
 have w3:=law119 m.asks hm.asks
 have w4:=law119 m.gives hm.gives
 simp[c33,w1,w2,w3,w4]
theorem Zdy:∀ (ws:List Want) (acc:T),(∀ w∈ws,wantOk w=true)->(formWants acc ws).size<=acc.size+90*ws.length
 | [],acc,_=>by simp[formWants]
 | w::ws,acc,h=>by
  rw[formWants]
  have:=Zdy ws (acc++formWant w) (fun x hx=>h x (Xh _ hx))
  have h2:=Zcz (Zc7 (h w Xi))
  rw[Zap]at this
  simp only[Xaa]
  omega
theorem Zhn(p:Parcel):(parcelForm p).size<=3000:=by
 have z0:(⟨#[]⟩:T).size=0:=rfl
 have z1:(⟨#[32]⟩:T).size=1:=rfl
 have z2:(⟨#[10]⟩:T).size=1:=rfl
 unfold parcelForm
 split
 case isFalse=>omega
 rename_i hb
 have hbs:=Zag hb
 unfold formSw
 split
 ·split
  case isFalse=>omega
  rename_i hc
  simp only[Xc]at hc
  obtain⟨c1,c2,c3⟩:=hc
  obtain⟨i1,i2⟩:=Zbb c1
  obtain⟨w1,w2,_⟩:=(Zaq _).1 c2
  have hd:=(law140' p.seen (by omega) (by omega)).2
  have:=Zdy p.wants (toldHead p) w2
  have h5:(⟨#[116,111,108,100,32]⟩:T).size=5:=rfl
  have ht:(toldHead p).size<=100:=by
   unfold toldHead
   simp only[Zap]
   omega
  omega
 ·split
  ·split
   case isFalse=>omega
   rename_i hc
   simp only[Xc]at hc
   obtain⟨c1,c2,c3,c4,c5⟩:=hc
   obtain⟨i1,i2⟩:=Zbb c3
   have hd:=(law140' p.at_ i1 i2).2
   have hh:=Zag (Zbz c1)
   have hk:=Zag c2
   have hw:(word p.kind).size<=10:=by
    unfold word
    split
    ·decide
    ·split<;>decide
   simp only[Zap]
   omega
  ·split
   ·split
    case isFalse=>omega
    rename_i hc
    simp only[Xc]at hc
    obtain⟨c1,c2,c3,c4,c5⟩:=hc
    obtain⟨i1,i2⟩:=Zbb c3
    have hd:=(law140' p.at_ i1 i2).2
    have hh:=Zag (Zbz c1)
    have h5:(⟨#[103,111,116,98,97,99,107,32]⟩:T).size=8:=rfl
    simp only[Zap]
    omega
   ·split
    ·split
     case isFalse=>omega
     rename_i hc
     simp only[Xc]at hc
     obtain⟨c1,c2,c3⟩:=hc
     obtain⟨i1,i2⟩:=Zbb c1
     have hd:=(law140' p.seen i1 i2).2
     have h5:(⟨#[104,101,114,101,32]⟩:T).size=5:=rfl
     simp only[Zap]
     omega
    ·omega
end Go.Proofs.YtgdfelbedghhnaaGreatDoor
